import Derived.Test.YtlclleihoampdaaA1
import Derived.Test.YtlclleihoampdaaEC
set_option linter.unusedVariables false
set_option linter.unusedSimpArgs false
namespace Go.Proofs.Ytlclleihoampdaa
open Go Go.Sx Go.Proofs
set_option maxRecDepth 10000 in
set_option maxHeartbeats 40000000 in
theorem write_ok (l : List Int) (log : Int) (cap : Nat) (hl : ∀ c ∈ l, isI16 c) (hlog : -9223372036854775808 ≤ log ∧ log ≤ 9223372036854775807) (hR : Right l log) :
  Con Try.prog 68 [.slice 0 .z 1 l.length cap, .int .i64 log] [.ro .i16 l] (fun v H R => R = [2] ∧ ∃ l' n' m' c c', WS (wbits l log) l' n' m' ∧ v = .tup [.slice 3 .z 1 n' c', .int .i64 0] ∧
   H = [.ro .i16 l, .one 184 [.slice 2 .z 1 n' c, .int .i64 m'], .buf 5 .u8 l' c, .buf 5 .u8 l' c']) := by
 have hright := right_con l log cap hl hlog
 rw [show decide (Right l log) = true by simp [hR]] at hright
 have f68 := fn96
 have hput := @bput_ws
 have hbytes := @bbytes_ws
 have hparts := parts_con
 have hlen := len_con
 refine con_gen (con_cut 4 (by simp) (con_red [2] (con_walk hmix fn68 ?_)))
 intro vb vc vw vtoN vofN vaddN vsubN vmaxI vminI vcutN vgd vst vln vrep vsub vonto vsplice vstrEq vbyteV vnotB veqB hw qb qc qw qtoN qofN qaddN qsubN qmaxI qminI qcutN qgd qst qln qrep qsub qonto qsplice qstrEq qbyteV qnotB qeqB
 have hm := hmix
 generalize Try.prog = P at *
 obtain ⟨g1, g2, g3, g4, g5, g6, g7⟩ := hR
 have hpl := pow_log ⟨g1, g2⟩
 have htot := wbits_length ⟨g1, g2, g3, g4, g5, g6, g7⟩
 have hW0 : wbits l log = bitsN (log - 5) 4 ++ wgo none l (2 ^ log.toNat) := rfl
 generalize wbits l log = W at *
 generalize hn : l.length = n at *
 have htake := fun i => sumP_take_le g6 i
 have hadd0 : ∀ i, vaddN 0 i = i := fun i => by simp only [qaddN, Nat.zero_add]
 have hto : ∀ i : Nat, vtoN (i : Int) = i := fun i => by simp only [qtoN, Int.toNat_natCast]
 have hvln : vln l = n := by simp only [qln, hn]
 have hvgd : ∀ i, vgd l i = l.getD i 0 := fun i => by simp only [qgd]
 have hmem : ∀ i, i < n → l.getD i 0 ∈ l := fun i hi => by rw [List.getD_eq_getElem?_getD, List.getElem?_eq_getElem (by omega)]; exact List.getElem_mem _
 cbv
 refine call_con (ρ := [(0, .z)]) hright ⟨by rfl, by rfl, by rfl, by cbv; exact ⟨view_refl _, trivial⟩⟩ ?_
 rintro v H R js ⟨rfl, rfl, rfl⟩
 have hnb : vnotB true = false := by simp only [qnotB]; rfl
 cbv
 rw [hnb]
 have e1 : vw .u64 (vb .sub .i64 log 5) = log - 5 := by rw [qw, qb, sub_i64 (by omega) (by omega)]; exact wrap_u64 (by omega) (by omega)
 have e2 : vw .u64 log = log := by rw [qw]; exact wrap_u64 (by omega) (by omega)
 have e3 : vb .shl .i64 1 log = 2 ^ log.toNat := by rw [qb, one_shl (by omega) (by omega)]
 have hput0 := hput [] [] 0 0 (log - 5) 4 0 (by omega) (by omega) WS.nil (by simp)
 generalize hlg5 : log - 5 = lg5 at *
 generalize hp : (2 : Int) ^ log.toNat = pw at *
 cbv
 rw [e1]
 refine CallX.cv f68.go (Cv.nilB 1 0 5 .u8 (by rfl) (by cbv) (Cv.here ?_)) (by rfl)
 refine call_con (ρ := [(1, .z), (2, .z)]) hput0 ⟨by rfl, by rfl, by rfl, by cbv⟩ ?_
 rintro v H R js2 ⟨rfl, l1, n1, m1, c1, hws1, rfl, rfl⟩
 clear hput0 hright
 cbv
 rw [e2]
 rw [e3]
 refine ⟨⟨by omega⟩, ?_⟩
 have hgx : ∀ i, i < n → -1 ≤ l.getD i 0 := fun i hi => g6 _ (hmem i hi)
 have h16 : ∀ i, i < n → isI16 (l.getD i 0) := fun i hi => hl _ (hmem i hi)
 have hdrop : ∀ i, i < n → l.drop i = l.getD i 0 :: l.drop (i + 1) := fun i hi => drop_cons (by omega)
 have hsumn : sumP (l.take n) = pw := by rw [List.take_of_length_le (by omega)]; exact g7
 have hsums : ∀ i, i < n → sumP (l.take (i + 1)) = sumP (l.take i) + partsN (l.getD i 0) := fun i hi => by rw [take_snoc (by omega), sumP_snoc]
 have hwg := wgo.eq_def
 have hlast : ∀ i, i < n → l.getD i 0 = 0 → i + 1 < n := fun i hi h0 => by
  apply Classical.byContradiction
  intro hc
  have : i = n - 1 := by omega
  rw [this] at h0; exact g5 h0
 refine loop_fam (α := Int × Int × List Int × Nat × Int × Nat) ([9, 10, 11, 12] ++ [27, 28, 29, 30, 31, 32, 33, 34, 35, 36, 37, 38, 39, 40, 41, 42, 43, 44, 45, 46, 47, 48, 49, 50, 51, 52, 53, 54, 55, 56, 57, 58, 59, 60, 61, 62, 63, 64, 65, 66, 67, 68, 69, 70, 71, 72, 73, 74, 75, 76, 77, 78, 79, 80, 81, 82, 83, 84, 85, 86, 87, 88, 89, 90, 91, 92, 93, 94, 95, 96, 97, 98, 99, 100, 101, 102, 103, 104, 105, 106, 107, 108, 109, 110]) [2]
  (fun (left, k, b, n1, m1, c1) => [(7, .int .i64 left), (8, .int .i64 k)])
  (fun (left, k, b, n1, m1, c1) => [(1, .one 184 [.slice 2 .z 1 n1 c1, .int .i64 m1]), (2, .buf 5 .u8 b c1)])
  (fun (left, k, b, n1, m1, c1) => ∃ (i : Nat) (bs : List Int), k = i ∧ i ≤ n ∧ left = pw - sumP (l.take i) ∧ WS bs b n1 m1 ∧ bs ++ wgo none (l.drop i) left = W) (fun (left, k, b, n1, m1, c1) => n - k.toNat) hw hm ?_ ?_
 ·refine Cv.genAt [8] [] (Cv.fold ([9, 10, 11, 12] ++ [27, 28, 29, 30, 31, 32, 33, 34, 35, 36, 37, 38, 39, 40, 41, 42, 43, 44, 45, 46, 47, 48, 49, 50, 51, 52, 53, 54, 55, 56, 57, 58, 59, 60, 61, 62, 63, 64, 65, 66, 67, 68, 69, 70, 71, 72, 73, 74, 75, 76, 77, 78, 79, 80, 81, 82, 83, 84, 85, 86, 87, 88, 89, 90, 91, 92, 93, 94, 95, 96, 97, 98, 99, 100, 101, 102, 103, 104, 105, 106, 107, 108, 109, 110]) 3 [2] (by exact Nat.le_refl _) (by exact Nat.le_of_ble_eq_true rfl) (by rfl) (by cbv) ?_)
  intro js
  refine ⟨(_, _, _, _, _, _), ?_, js, rfl⟩
  exact ⟨0, _, rfl, by omega, by simp [sumP], hws1, by rw [hW0]; rfl⟩
 ·rintro ⟨left, k, b, n2, m2, c2⟩ js ⟨i, bs, hk, hi, hleft, hws, hbs⟩
  clear hws1 e1 e2 e3
  cbv
  split
  rotate_left
  ·rename_i h
   rw [qc, gtr_false] at h
   have hbs2 : bs = W := by rw [← hbs, wgo_done (by omega), List.append_nil]
   rw [hbs2] at hws
   have hb := hbytes W b c2 n2 m2 hws (by omega)
   cbv
   refine call_con (ρ := [(1, .z), (2, .z)]) hb ⟨by rfl, by rfl, by rfl, by cbv⟩ ?_
   rintro v H R js2 ⟨rfl, c', rfl, rfl⟩
   cbv
   exact ⟨b, n2, m2, c2, c', hws, rfl, rfl⟩
  ·rename_i h
   rw [qc, gtr_true] at h
   have hin : i < n := by
    apply Classical.byContradiction
    intro hc
    have : i = n := by omega
    subst this
    omega
   simp only [nc] at *
   have ht0 := htake i
   have ea : vb .add .i64 left 1 = left + 1 := by rw [qb, add_i64 (by omega) (by omega)]
   have hle : left ≤ pw := by omega
   generalize hmo : left + 1 = mo at *
   have eb : vw .u64 mo = mo := by rw [qw]; exact wrap_u64 (by omega) (by omega)
   have hl1 := hlen mo (by omega)
   obtain ⟨mk, hmk, hmk1, hmk2⟩ := blen_spec (x := mo) (by omega)
   have hmk12 : 1 ≤ mk ∧ mk ≤ 12 := by
    constructor
    ·apply Classical.byContradiction
     intro hc
     have : mk = 0 := by omega
     subst this
     omega
    ·apply Classical.byContradiction
     intro hc
     have : (2 : Int) ^ 13 ≤ 2 ^ mk := by exact_mod_cast Nat.pow_le_pow_right (by omega : 0 < 2) (by omega : 13 ≤ mk)
     omega
   have hpv : putV (l.getD i 0 + 1) mo = (if l.getD i 0 + 1 < 2 ^ (blen mo).toNat - 1 - mo then bitsN (l.getD i 0 + 1) (blen mo - 1).toNat
    else if l.getD i 0 + 1 < 2 ^ (blen mo - 1).toNat then bitsN (l.getD i 0 + 1) (blen mo).toNat
    else bitsN (l.getD i 0 + 1 + (2 ^ (blen mo).toNat - 1 - mo)) (blen mo).toNat) := rfl
   generalize blen mo = mb at *
   have ec : vw .u64 mb = mb := by rw [qw]; exact wrap_u64 (by omega) (by omega)
   have ed : vb .shl .i64 1 mb = 2 ^ mb.toNat := by rw [qb, one_shl62 (by omega) (by omega)]
   have ee : vb .sub .i64 mb 1 = mb - 1 := by rw [qb, sub_i64 (by omega) (by omega)]
   have ee2 : vw .u64 (mb - 1) = mb - 1 := by rw [qw]; exact wrap_u64 (by omega) (by omega)
   have ef : vb .shl .i64 1 (mb - 1) = 2 ^ (mb - 1).toNat := by rw [qb, one_shl62 (by omega) (by omega)]
   have hpm : (2 : Int) ^ mb.toNat = 2 ^ (mk + 1) := by rw [hmk]; rfl
   have hpm1 : (2 : Int) ^ (mb - 1).toNat = 2 ^ mk := by rw [hmk]; congr 1; omega
   have hpw2 : (2 : Int) ^ (mk + 1) = 2 * 2 ^ mk := by rw [Int.pow_succ]; omega
   rw [hpm1] at ef hpv
   rw [hpm] at ed hpv
   rw [hpw2] at ed hpv hmk2
   have hqq : (2 : Int) ^ mk ≤ 2 ^ 12 := by exact_mod_cast Nat.pow_le_pow_right (by omega : 0 < 2) hmk12.2
   generalize hq : (2 : Int) ^ mk = q at *
   have eg : vb .sub .i64 (2 * q) 1 = 2 * q - 1 := by rw [qb, sub_i64 (by omega) (by omega)]
   have eh : vb .sub .i64 (2 * q - 1) mo = 2 * q - 1 - mo := by rw [qb, sub_i64 (by omega) (by omega)]
   generalize htt : 2 * q - 1 - mo = tt at *
   generalize hq21 : 2 * q - 1 = q21 at *
   generalize hq2 : 2 * q = q2 at *
   generalize hmb1 : mb - 1 = mb1 at *
   have hti : vtoN k = i := by rw [hk]; exact hto i
   have hinR : 0 ≤ k ∧ k < (n : Int) := by omega
   cbv
   rw [ea, eb]
   refine call_con (ρ := []) hl1 ⟨by rfl, by rfl, by rfl, by cbv⟩ ?_
   rintro v H R js2 ⟨rfl, rfl, rfl⟩
   cbv
   rw [ec, ed, eg, ea, eh, hti, hadd0]
   simp only [nc] at *
   have hbl : bs.length ≤ 5000 := by have := congrArg List.length hbs; rw [List.length_append] at this; omega
   have hwg1 : wgo none (l.drop i) left = putV (l.getD i 0 + 1) mo ++ wgo (if l.getD i 0 = 0 then some 0 else none) (l.drop (i + 1)) (left - partsN (l.getD i 0)) := by
    rw [hdrop i hin, wgo, if_neg (by omega), hmo]
   rw [hwg1, ← List.append_assoc] at hbs
   have hs1 := hsums i hin
   have h16i := h16 i hin
   have hgxi := hgx i hin
   have hlasti := hlast i hin
   have hpn := partsN_le h16i
   have hpc := hparts _ h16i
   have ht1 := htake (i + 1)
   have hp00 : l.getD i 0 = 0 → partsN (l.getD i 0) = 0 := fun h => by rw [h]; rfl
   rw [hvgd i]
   generalize hci : l.getD i 0 = ci at *
   have ei : vw .i64 ci = ci := by unfold isI16 at h16i; rw [qw]; exact wrap_i64 (by omega) (by omega)
   have ej : vb .add .i64 ci 1 = ci + 1 := by unfold isI16 at h16i; rw [qb, add_i64 (by omega) (by omega)]
   rw [ei, ej]
   have hv : 0 ≤ ci + 1 ∧ ci + 1 ≤ 32768 := by unfold isI16 at h16i; omega
   generalize hvv : ci + 1 = v at *
   have ek : vb .add .i64 v tt = v + tt := by rw [qb, add_i64 (by omega) (by omega)]
   have ek2 : vw .u64 (v + tt) = v + tt := by rw [qw]; exact wrap_u64 (by omega) (by omega)
   have ek3 : vw .u64 v = v := by rw [qw]; exact wrap_u64 (by omega) (by omega)
   have hput1 := hput bs b c2 n2 v mb1 m2 (by omega) (by omega) hws (by omega)
   have hput2 := hput bs b c2 n2 v mb m2 (by omega) (by omega) hws (by omega)
   have hput3 := hput bs b c2 n2 (v + tt) mb m2 (by omega) (by omega) hws (by omega)
   generalize hvt : v + tt = vt at *
   generalize partsN ci = pc at *
   have el : vb .sub .i64 left pc = left - pc := by rw [qb, sub_i64 (by omega) (by omega)]
   have em : vb .add .i64 k 1 = k + 1 := by rw [qb, add_i64 (by omega) (by omega)]
   have en : vb .sub .i64 (k + 1) 1 = k := by rw [qb, sub_i64 (by omega) (by omega)]; omega
   generalize hk1 : k + 1 = k1 at *
   generalize hl2 : left - pc = left2 at *
   refine ⟨⟨by omega⟩, ⟨hinR⟩, ⟨by omega⟩, ⟨by omega⟩, ?_⟩
   generalize putV v mo = pv at *
   generalize hz : vc .lss v tt = z
   cases z
   rw [qc, lss_false] at hz
   rw [if_neg hz] at hpv
   cbv
   rw [ee, ee2, ef]
   refine ⟨⟨by simp only [nc] at *; omega⟩, ?_⟩
   generalize hz2 : vc .lss v q = z2
   cases z2
   rw [qc, lss_false] at hz2
   rw [if_neg hz2] at hpv
   cbv
   rw [ek, ek2]
   refine call_con (ρ := [(1, .z), (2, .z)]) hput3 ⟨by rfl, by rfl, by rfl, by cbv⟩ ?_
   rotate_left
   rw [qc, lss_true] at hz2
   rw [if_pos hz2] at hpv
   cbv
   rw [ek3]
   refine call_con (ρ := [(1, .z), (2, .z)]) hput2 ⟨by rfl, by rfl, by rfl, by cbv⟩ ?_
   rotate_left
   rw [qc, lss_true] at hz
   rw [if_pos hz] at hpv
   cbv
   rw [ee, ek3]
   refine call_con (ρ := [(1, .z), (2, .z)]) hput1 ⟨by rfl, by rfl, by rfl, by cbv⟩ ?_
   all_goals
    rintro v H R js2 ⟨rfl, b3, n3, m3, c3, hws3, rfl, rfl⟩
    rw [← hpv] at hws3
    clear hput1 hput2 hput3
    cbv
    rw [hti, hadd0, hvgd, hci]
    refine ⟨⟨hinR⟩, ⟨by omega⟩, ⟨by omega⟩, ?_⟩
    refine call_con (ρ := []) hpc ⟨by rfl, by rfl, by rfl, by cbv⟩ ?_
    rintro v H R js3 ⟨rfl, rfl, rfl⟩
    cbv
    rw [el, em, en, hti, hadd0, hvgd, hci]
    refine ⟨⟨hinR⟩, ⟨by omega⟩, ⟨by omega⟩, ?_⟩
    generalize hz3 : vc .neq ci 0 = z3
    cases z3
    rotate_left
    ·rw [qc, neq_true] at hz3
     rw [if_neg hz3] at hbs
     cbv
     refine Cv.fold ([9, 10, 11, 12] ++ [27, 28, 29, 30, 31, 32, 33, 34, 35, 36, 37, 38, 39, 40, 41, 42, 43, 44, 45, 46, 47, 48, 49, 50, 51, 52, 53, 54, 55, 56, 57, 58, 59, 60, 61, 62, 63, 64, 65, 66, 67, 68, 69, 70, 71, 72, 73, 74, 75, 76, 77, 78, 79, 80, 81, 82, 83, 84, 85, 86, 87, 88, 89, 90, 91, 92, 93, 94, 95, 96, 97, 98, 99, 100, 101, 102, 103, 104, 105, 106, 107, 108, 109, 110]) 3 [2] (by exact Nat.le_refl _) (by exact Nat.le_of_ble_eq_true rfl) (by rfl) (by cbv) ?_
     intro js
     refine ⟨(_, _, _, _, _, _), ?_, js, rfl⟩
     simp only [nc] at *
     exact ⟨⟨i + 1, _, by omega, by omega, by omega, hws3, hbs⟩, by show n - k1.toNat < n - k.toNat; omega⟩
    rw [qc, neq_false] at hz3
    have hz3 : ci = 0 := Classical.not_not.1 hz3
    rw [if_pos hz3] at hbs
    have hpc0 := hp00 hz3
    have hil := hlasti hz3
    have hleft2 : left2 = pw - sumP (l.take (i + 1)) := by omega
    have hpart0 : partsN 0 = 0 := by decide
    have hsum0 : ∀ j, j < n → l.getD j 0 = 0 → sumP (l.take (j + 1)) = sumP (l.take j) := fun j hj h0 => by have := hsums j hj; rw [h0, hpart0] at this; omega
    clear ej ei ek ek2 ek3 ec ed ee ee2 ef eg eh ea eb hl1 hpc hz hlen hparts hpv hs1
    cbv
    refine loop_fam (α := Int × Int × List Int × Nat × Int × Nat) [90, 91, 92, 93, 94, 95, 96, 97, 98, 99, 100, 101, 102, 103, 104, 105, 106, 107, 108] [2]
     (fun (nn, k, b, n1, m1, c1) => [(12, .int .i64 nn), (8, .int .i64 k)])
     (fun (nn, k, b, n1, m1, c1) => [(1, .one 184 [.slice 2 .z 1 n1 c1, .int .i64 m1]), (2, .buf 5 .u8 b c1)])
     (fun (nn, k, b, n1, m1, c1) => ∃ (j : Nat) (bs : List Int), k = j ∧ i + 1 ≤ j ∧ j < n ∧ sumP (l.take j) = sumP (l.take (i + 1)) ∧ WS bs b n1 m1 ∧ ((nn = 3 ∧ bs ++ wgo (some 0) (l.drop j) left2 = W) ∨ (nn ≠ 3 ∧ bs ++ wgo none (l.drop j) left2 = W)))
     (fun (nn, k, b, n1, m1, c1) => 2 * (n - k.toNat) + (if nn = 3 then 1 else 0)) hw hm ?_ ?_
    ·refine Cv.genAt [12] [] (Cv.fold [90, 91, 92, 93, 94, 95, 96, 97, 98, 99, 100, 101, 102, 103, 104, 105, 106, 107, 108] 3 [2] (by exact Nat.le_refl _) (by exact Nat.le_of_ble_eq_true rfl) (by rfl) (by cbv) ?_)
     intro js
     refine ⟨(_, _, _, _, _, _), ?_, js, rfl⟩
     simp only [nc] at *
     exact ⟨i + 1, _, by omega, by omega, by omega, rfl, hws3, .inl ⟨by trivial, hbs⟩⟩
    ·rintro ⟨nn, k4, b4, n4, m4, c4⟩ js ⟨j, bs4, hk4, hij, hjn, hsj, hws4, hbs4⟩
     clear hws3 hbs hws
     have hbl4 : bs4.length ≤ 5000 := by
      rcases hbs4 with ⟨_, h⟩ | ⟨_, h⟩ <;> (have := congrArg List.length h; rw [List.length_append] at this; omega)
     cbv
     split
     rotate_left
     ·rename_i hz4
      rw [qc, eql_false] at hz4
      have hbs5 := hbs4.resolve_left (fun h => hz4 h.1)
      cbv
      refine Cv.fold ([9, 10, 11, 12] ++ [27, 28, 29, 30, 31, 32, 33, 34, 35, 36, 37, 38, 39, 40, 41, 42, 43, 44, 45, 46, 47, 48, 49, 50, 51, 52, 53, 54, 55, 56, 57, 58, 59, 60, 61, 62, 63, 64, 65, 66, 67, 68, 69, 70, 71, 72, 73, 74, 75, 76, 77, 78, 79, 80, 81, 82, 83, 84, 85, 86, 87, 88, 89, 90, 91, 92, 93, 94, 95, 96, 97, 98, 99, 100, 101, 102, 103, 104, 105, 106, 107, 108, 109, 110]) 3 [2] (by exact Nat.le_refl _) (by exact Nat.le_of_ble_eq_true rfl) (by rfl) (by cbv) ?_
      intro js
      refine ⟨(_, _, _, _, _, _), ?_, js, rfl⟩
      simp only [nc] at *
      exact ⟨⟨j, _, hk4, by omega, by omega, hws4, hbs5.2⟩, by show n - k4.toNat < n - k.toNat; omega⟩
     ·rename_i hz4
      rw [qc, eql_true] at hz4
      have hbs5 := (hbs4.resolve_right (fun h => h.1 hz4)).2
      cbv
      refine loop_fam (α := Int × Int) [92, 93, 94, 95, 96, 97, 98, 99, 100, 101, 102, 103, 104] [2]
       (fun (nn, k) => [(12, .int .i64 nn), (8, .int .i64 k)]) (fun _ => [])
       (fun (nn, k) => ∃ (c : Nat), k = (j + c : Nat) ∧ nn = c ∧ c ≤ 3 ∧ j + c < n ∧ sumP (l.take (j + c)) = sumP (l.take (i + 1)) ∧ bs4 ++ (if c = 3 then bitsN 3 2 ++ wgo (some 0) (l.drop (j + c)) left2 else wgo (some c) (l.drop (j + c)) left2) = W)
       (fun (nn, k) => 3 - nn.toNat) hw hm ?_ ?_
      ·refine Cv.genAt [12] [] (Cv.fold [92, 93, 94, 95, 96, 97, 98, 99, 100, 101, 102, 103, 104] 3 [2] (by exact Nat.le_refl _) (by exact Nat.le_of_ble_eq_true rfl) (by rfl) (by cbv) ?_)
       intro js
       refine ⟨(_, _), ?_, js, rfl⟩
       simp only [nc] at *
       exact ⟨0, by omega, rfl, by omega, by omega, by rw [Nat.add_zero]; exact hsj, by rw [Nat.add_zero, if_neg (by omega)]; exact hbs5⟩
      ·rintro ⟨n5, k5⟩ js ⟨c5, hk5, hn5, hc3, hjc, hsc, hbs6⟩
       have hto5 : vtoN k5 = j + c5 := by rw [hk5]; exact hto _
       have hin5 : 0 ≤ k5 ∧ k5 < (n : Int) := by simp only [nc] at *; omega
       have eo : vb .add .i64 k5 1 = ((j + (c5 + 1) : Nat) : Int) := by simp only [nc] at *; rw [qb, add_i64 (by omega) (by omega)]; omega
       have ep : vb .add .i64 n5 1 = ((c5 + 1 : Nat) : Int) := by simp only [nc] at *; rw [qb, add_i64 (by omega) (by omega)]; omega
       have eq2 : vw .u64 n5 = n5 := by simp only [nc] at *; rw [qw]; exact wrap_u64 (by omega) (by omega)
       have hputn := hput bs4 b4 c4 n4 n5 2 m4 (by simp only [nc] at *; omega) (by omega) hws4 (by omega)
       have hstep : c5 < 3 → l.getD (j + c5) 0 = 0 → bs4 ++ (if c5 + 1 = 3 then bitsN 3 2 ++ wgo (some 0) (l.drop (j + (c5 + 1))) left2 else wgo (some (c5 + 1)) (l.drop (j + (c5 + 1))) left2) = W ∧ j + (c5 + 1) < n ∧ sumP (l.take (j + (c5 + 1))) = sumP (l.take (i + 1)) := by
        intro h3 h0
        refine ⟨?_, hlast _ hjc h0, by rw [← Nat.add_assoc, hsum0 _ hjc h0, hsc]⟩
        rw [if_neg (by omega), hdrop _ hjc, h0, wgo, if_pos rfl] at hbs6
        by_cases h2 : c5 = 2
        ·rw [if_pos (by omega)]
         rw [if_pos h2] at hbs6
         exact hbs6
        ·rw [if_neg (by omega)]
         rw [if_neg h2] at hbs6
         exact hbs6
       have hend : c5 = 3 ∨ l.getD (j + c5) 0 ≠ 0 → (n5 = 3 ∧ (bs4 ++ bitsN n5 2) ++ wgo (some 0) (l.drop (j + c5)) left2 = W) ∨ (n5 ≠ 3 ∧ (bs4 ++ bitsN n5 2) ++ wgo none (l.drop (j + c5)) left2 = W) := by
        intro h
        by_cases h3 : c5 = 3
        ·subst h3
         rw [if_pos rfl, ← List.append_assoc] at hbs6
         rw [hn5]
         exact .inl ⟨rfl, hbs6⟩
        ·have hne := h.resolve_left h3
         refine .inr ⟨by simp only [nc] at *; omega, ?_⟩
         rw [if_neg h3, hdrop _ hjc, wgo, if_neg hne] at hbs6
         rw [List.append_assoc, hdrop _ hjc, wgo, if_neg hne, hn5]
         exact hbs6
       cbv
       generalize hz5 : vc .lss n5 3 = z5
       cases z5
       ·rw [qc, lss_false] at hz5
        have hc53 : c5 = 3 := by simp only [nc] at *; omega
        have hend := hend (.inl hc53)
        cbv
        rw [eq2]
        refine call_con (ρ := [(1, .z), (2, .z)]) hputn ⟨by rfl, by rfl, by rfl, by cbv⟩ ?_
        rintro v H R js6 ⟨rfl, b6, n6, m6, c6, hws6, rfl, rfl⟩
        cbv
        refine Cv.fold [90, 91, 92, 93, 94, 95, 96, 97, 98, 99, 100, 101, 102, 103, 104, 105, 106, 107, 108] 3 [2] (by exact Nat.le_refl _) (by exact Nat.le_of_ble_eq_true rfl) (by rfl) (by cbv) ?_
        intro js
        refine ⟨(_, _, _, _, _, _), ?_, js, rfl⟩
        refine ⟨⟨j + c5, _, hk5, by omega, hjc, hsc, hws6, hend⟩, ?_⟩
        show 2 * (n - k5.toNat) + (if n5 = 3 then 1 else 0) < 2 * (n - k4.toNat) + (if nn = 3 then 1 else 0)
        rw [if_pos hz4]
        simp only [nc] at *
        split <;> omega
       ·rw [qc, lss_true] at hz5
        have hc53 : c5 < 3 := by simp only [nc] at *; omega
        cbv
        rw [hto5, hadd0, hvgd]
        refine ⟨⟨hin5⟩, ⟨by omega⟩, ⟨by omega⟩, ?_⟩
        generalize hz6 : vc .eql (l.getD (j + c5) 0) 0 = z6
        cases z6
        ·rw [qc, eql_false] at hz6
         have hend := hend (.inr hz6)
         cbv
         rw [eq2]
         refine call_con (ρ := [(1, .z), (2, .z)]) hputn ⟨by rfl, by rfl, by rfl, by cbv⟩ ?_
         rintro v H R js6 ⟨rfl, b6, n6, m6, c6, hws6, rfl, rfl⟩
         cbv
         refine Cv.fold [90, 91, 92, 93, 94, 95, 96, 97, 98, 99, 100, 101, 102, 103, 104, 105, 106, 107, 108] 3 [2] (by exact Nat.le_refl _) (by exact Nat.le_of_ble_eq_true rfl) (by rfl) (by cbv) ?_
         intro js
         refine ⟨(_, _, _, _, _, _), ?_, js, rfl⟩
         refine ⟨⟨j + c5, _, hk5, by omega, hjc, hsc, hws6, hend⟩, ?_⟩
         show 2 * (n - k5.toNat) + (if n5 = 3 then 1 else 0) < 2 * (n - k4.toNat) + (if nn = 3 then 1 else 0)
         rw [if_pos hz4]
         simp only [nc] at *
         rw [if_neg (by omega)]
         omega
        ·rw [qc, eql_true] at hz6
         obtain ⟨hs7, hj7, hs8⟩ := hstep hc53 hz6
         cbv
         rw [eo, ep]
         refine Cv.fold [92, 93, 94, 95, 96, 97, 98, 99, 100, 101, 102, 103, 104] 3 [2] (by exact Nat.le_refl _) (by exact Nat.le_of_ble_eq_true rfl) (by rfl) (by cbv) ?_
         intro js
         refine ⟨(_, _), ?_, js, rfl⟩
         refine ⟨⟨c5 + 1, rfl, rfl, hc53, hj7, hs8, hs7⟩, ?_⟩
         show 3 - ((c5 + 1 : Nat) : Int).toNat < 3 - n5.toNat
         simp only [nc] at *
         omega
end Go.Proofs.Ytlclleihoampdaa
namespace Go.Proofs.Ytlclleihoampdaa
open Go Go.Sx Go.Proofs
def stepT (size a : Int) : Int := (a + size / 2 + size / 8 + 3) % size
def skipT (size high : Int) : Nat → Int → Int
 | 0, a => a
 | n + 1, a => if a < high then a else skipT size high n (stepT size a)
def nextT (size high a : Int) : Int := skipT size high 5000 (stepT size a)
def posT (size high : Int) : Nat → Int
 | 0 => 0
 | n + 1 => nextT size high (posT size high n)
def iterT (size : Int) : Nat → Int → Int
 | 0, a => a
 | n + 1, a => iterT size n (stepT size a)
theorem iterT_eq {size : Int} (h : 0 < size) : ∀ (n : Nat) (a : Int), 0 ≤ a → a < size → iterT size n a = (a + n * (size / 2 + size / 8 + 3)) % size
 | 0, a, h0, h1 => by simp only [iterT]; rw [show a + ((0 : Nat) : Int) * (size / 2 + size / 8 + 3) = a by simp]; exact (Int.emod_eq_of_lt h0 h1).symm
 | n + 1, a, h0, h1 => by
  have hs : 0 ≤ stepT size a ∧ stepT size a < size := ⟨Int.emod_nonneg _ (by omega), Int.emod_lt_of_pos _ h⟩
  rw [iterT, iterT_eq h n _ hs.1 hs.2]
  unfold stepT
  rw [Int.emod_add_emod]
  congr 1
  push_cast
  rw [Int.add_mul]
  omega
theorem hit0 {size : Int} (hs : size = 32 ∨ size = 64 ∨ size = 128 ∨ size = 256 ∨ size = 512 ∨ size = 1024 ∨ size = 2048 ∨ size = 4096) {a : Int} (h0 : 0 ≤ a) (h1 : a < size) : ∃ m : Nat, m ≤ 4096 ∧ iterT size m a = 0 := by
 have key : ∀ inv : Int, (inv * (size / 2 + size / 8 + 3)) % size = 1 → 0 < size → size ≤ 4096 → ∃ m : Nat, m ≤ 4096 ∧ iterT size m a = 0 := by
  intro inv hinv hp hle
  refine ⟨(((size - a) * inv) % size).toNat, ?_, ?_⟩
  ·have := Int.emod_lt_of_pos ((size - a) * inv) hp
   omega
  ·rw [iterT_eq hp _ _ h0 h1, Int.toNat_of_nonneg (Int.emod_nonneg _ (by omega))]
   have e : ((size - a) * inv % size * (size / 2 + size / 8 + 3)) % size = (size - a) % size := by
    rw [Int.mul_emod, Int.emod_emod_of_dvd _ (Int.dvd_refl _), ← Int.mul_emod, Int.mul_assoc, Int.mul_emod, hinv, Int.mul_one, Int.emod_emod_of_dvd _ (Int.dvd_refl _)]
   rw [Int.add_emod, e, Int.add_emod_emod, Int.emod_add_emod]
   rw [show a + (size - a) = size by omega, Int.emod_self]
 rcases hs with rfl | rfl | rfl | rfl | rfl | rfl | rfl | rfl
 ·exact key 7 (by decide) (by decide) (by decide)
 ·exact key 3 (by decide) (by decide) (by decide)
 ·exact key 91 (by decide) (by decide) (by decide)
 ·exact key 11 (by decide) (by decide) (by decide)
 ·exact key 363 (by decide) (by decide) (by decide)
 ·exact key 43 (by decide) (by decide) (by decide)
 ·exact key 1451 (by decide) (by decide) (by decide)
 ·exact key 171 (by decide) (by decide) (by decide)
theorem step_bound {size : Int} (h : 0 < size) (a : Int) : 0 ≤ stepT size a ∧ stepT size a < size := ⟨Int.emod_nonneg _ (by omega), Int.emod_lt_of_pos _ h⟩
theorem skipT_bound {size high : Int} (h : 0 < size) : ∀ (n : Nat) (a : Int), 0 ≤ a → a < size → 0 ≤ skipT size high n a ∧ skipT size high n a < size
 | 0, a, h0, h1 => ⟨h0, h1⟩
 | n + 1, a, h0, h1 => by
  simp only [skipT]
  split
  ·exact ⟨h0, h1⟩
  ·exact skipT_bound h n _ (step_bound h a).1 (step_bound h a).2
theorem skipT_lt {size high : Int} (h : 0 < high) : ∀ (n m : Nat) (a : Int), iterT size m a = 0 → m ≤ n → skipT size high n a < high
 | 0, m, a, hm, hmn => by
  have : m = 0 := by omega
  subst this
  simp only [iterT] at hm
  simp only [skipT]; omega
 | n + 1, m, a, hm, hmn => by
  simp only [skipT]
  split
  ·assumption
  ·rename_i ha
   cases m with
   | zero => simp only [iterT] at hm; omega
   | succ m => exact skipT_lt h n m _ hm (by omega)
theorem skipT_step {size high a : Int} {n m : Nat} (h : 0 < high) (ha : ¬ a < high) (hm : iterT size m a = 0) (hmn : m ≤ n) : ∃ n' m', n = n' + 1 ∧ m = m' + 1 ∧ skipT size high n a = skipT size high n' (stepT size a) ∧ iterT size m' (stepT size a) = 0 := by
 cases m with
 | zero => simp only [iterT] at hm; omega
 | succ m =>
  cases n with
  | zero => omega
  | succ n => exact ⟨n, m, rfl, rfl, by simp only [skipT]; rw [if_neg ha], hm⟩
theorem skipT_here {size high a : Int} {n : Nat} (ha : a < high) : skipT size high n a = a := by
 cases n with
 | zero => rfl
 | succ n => simp only [skipT]; rw [if_pos ha]
theorem size_of {log : Int} (h : 5 ≤ log ∧ log ≤ 12) : ∃ size : Int, 2 ^ log.toNat = size ∧ (size = 32 ∨ size = 64 ∨ size = 128 ∨ size = 256 ∨ size = 512 ∨ size = 1024 ∨ size = 2048 ∨ size = 4096) := by
 obtain ⟨n, rfl⟩ : ∃ n : Nat, log = n := ⟨log.toNat, by omega⟩
 have : n = 5 ∨ n = 6 ∨ n = 7 ∨ n = 8 ∨ n = 9 ∨ n = 10 ∨ n = 11 ∨ n = 12 := by omega
 refine ⟨_, rfl, ?_⟩
 rcases this with rfl | rfl | rfl | rfl | rfl | rfl | rfl | rfl <;> decide
def negN (l : List Int) : Nat → Int
 | 0 => 0
 | i + 1 => negN l i + (if l.getD i 0 < 0 then 1 else 0)
def negS (l : List Int) (size : Int) : Nat → Nat → Int
 | 0 => fun _ => 0
 | i + 1 => if l.getD i 0 < 0 then updI (negS l size i) (size - negN l (i + 1)).toNat i else negS l size i
def rowT (l : List Int) : Nat → List Int
 | 0 => []
 | i + 1 => rowT l i ++ List.replicate (l.getD i 0).toNat (i : Int)
def placeT (size high : Int) (row : List Int) (sy : Nat → Int) : Nat → Nat → Int
 | 0 => sy
 | i + 1 => updI (placeT size high row sy i) (posT size high i).toNat (row.getD i 0)
def symT (l : List Int) (size : Int) : Nat → Int :=
 placeT size (size - negN l l.length) (rowT l l.length) (negS l size l.length) (size - negN l l.length).toNat
def cntT (sy : Nat → Int) (s : Int) : Nat → Int
 | 0 => 0
 | k + 1 => cntT sy s k + (if sy k = s then 1 else 0)
def xT (l : List Int) (sy : Nat → Int) (k : Nat) : Int := partsN (l.getD (sy k).toNat 0) + cntT sy (sy k) k
def bT (log x : Int) : Int := IntKind.u8.wrap (log + 1 - blen x)
def baseT (log size x : Int) : Int := IntKind.u16.wrap (bV .sub .i64 (bV .shl .i64 x (IntKind.u64.wrap (log + 1 - blen x))) size)
def tabB (l : List Int) (log size : Int) (i m : Nat) : Int := if m < i then bT log (xT l (symT l size) m) else 0
def tabC (l : List Int) (log size : Int) (i m : Nat) : Int := if m < i then baseT log size (xT l (symT l size) m) else 0
theorem tabB_step (l : List Int) (log size : Int) (i : Nat) : updI (tabB l log size i) i (bT log (xT l (symT l size) i)) = tabB l log size (i + 1) := by
 funext m
 rw [updI_eq]
 unfold tabB
 by_cases h : m = i
 ·subst h; rw [if_pos rfl, if_pos (by omega)]
 ·rw [if_neg h]
  by_cases h2 : m < i
  ·rw [if_pos h2, if_pos (by omega)]
  ·rw [if_neg h2, if_neg (by omega)]
theorem tabC_step (l : List Int) (log size : Int) (i : Nat) : updI (tabC l log size i) i (baseT log size (xT l (symT l size) i)) = tabC l log size (i + 1) := by
 funext m
 rw [updI_eq]
 unfold tabC
 by_cases h : m = i
 ·subst h; rw [if_pos rfl, if_pos (by omega)]
 ·rw [if_neg h]
  by_cases h2 : m < i
  ·rw [if_pos h2, if_pos (by omega)]
  ·rw [if_neg h2, if_neg (by omega)]
theorem negN_range (l : List Int) : ∀ i, 0 ≤ negN l i ∧ negN l i ≤ i
 | 0 => by simp [negN]
 | i + 1 => by
  have := negN_range l i
  simp only [negN]; split <;> (push_cast; omega)
theorem rowT_length (l : List Int) (h : ∀ c ∈ l, -1 ≤ c) : ∀ i, i ≤ l.length → ((rowT l i).length : Int) = sumP (l.take i) - negN l i
 | 0, _ => by simp [rowT, negN, sumP]
 | i + 1, hi => by
  have ih := rowT_length l h i (by omega)
  have hc : -1 ≤ l.getD i 0 := h _ (by rw [List.getD_eq_getElem?_getD, List.getElem?_eq_getElem (by omega)]; exact List.getElem_mem _)
  rw [take_snoc (by omega), sumP_snoc, rowT, negN, List.length_append, List.length_replicate]
  unfold partsN
  split <;> (push_cast; omega)
theorem rowT_mem (l : List Int) : ∀ i, ∀ s ∈ rowT l i, 0 ≤ s ∧ s < i
 | 0, s, h => by simp [rowT] at h
 | i + 1, s, h => by
  simp only [rowT, List.mem_append] at h
  rcases h with h | h
  ·have := rowT_mem l i s h; omega
  ·have := List.eq_of_mem_replicate h; omega
theorem cntT_range (sy : Nat → Int) (s : Int) : ∀ k, 0 ≤ cntT sy s k ∧ cntT sy s k ≤ k
 | 0 => by simp [cntT]
 | k + 1 => by
  have := cntT_range sy s k
  simp only [cntT]; split <;> (push_cast; omega)
theorem negS_range (l : List Int) (size : Int) : ∀ i m, 0 ≤ negS l size i m ∧ negS l size i m < max i 1
 | 0, m => by simp [negS]
 | i + 1, m => by
  have := negS_range l size i m
  simp only [negS]
  split
  ·rw [updI_eq]; split <;> omega
  ·omega
theorem getD_mem_or {l : List Int} (i : Nat) : l.getD i 0 ∈ l ∨ l.getD i 0 = 0 := by
 rw [List.getD_eq_getElem?_getD]
 cases h : l[i]? with
 | none => exact .inr rfl
 | some v => exact .inl (List.mem_of_getElem? h)
theorem placeT_range {size high n : Int} {row : List Int} {sy : Nat → Int} (hn : 0 < n) (h1 : ∀ m, 0 ≤ sy m ∧ sy m < n) (h2 : ∀ s ∈ row, 0 ≤ s ∧ s < n) : ∀ i m, 0 ≤ placeT size high row sy i m ∧ placeT size high row sy i m < n
 | 0, m => h1 m
 | i + 1, m => by
  have := placeT_range (size := size) (high := high) hn h1 h2 i m
  simp only [placeT]
  rw [updI_eq]
  split
  ·rcases getD_mem_or (l := row) i with h | h
   ·exact h2 _ h
   ·rw [h]; omega
  ·exact this
theorem symT_range {l : List Int} (size : Int) (h : 0 < l.length) (m : Nat) : 0 ≤ symT l size m ∧ symT l size m < l.length := by
 refine placeT_range (by omega) (fun m => ?_) (fun s hs => ?_) _ m
 ·have := negS_range l size l.length m; omega
 ·exact rowT_mem l _ s hs
theorem partsN_le_sum {l : List Int} (h : ∀ c ∈ l, -1 ≤ c) (i : Nat) : 0 ≤ partsN (l.getD i 0) ∧ partsN (l.getD i 0) ≤ sumP l := by
 by_cases hi : i < l.length
 ·have h1 := sumP_take_le h i
  have h2 := sumP_take_le h (i + 1)
  rw [take_snoc hi, sumP_snoc] at h2
  have := partsN_nonneg (h (l.getD i 0) (by rw [List.getD_eq_getElem?_getD, List.getElem?_eq_getElem (by omega)]; exact List.getElem_mem _))
  omega
 ·have h1 := sumP_take_le h 0
  rw [List.getD_eq_getElem?_getD, List.getElem?_eq_none (by omega)]
  have : partsN ((none : Option Int).getD 0) = 0 := by decide
  omega
theorem posT_range {size high : Int} (hs : size = 32 ∨ size = 64 ∨ size = 128 ∨ size = 256 ∨ size = 512 ∨ size = 1024 ∨ size = 2048 ∨ size = 4096) (hh : 0 < high) : ∀ i, 0 ≤ posT size high i ∧ posT size high i < high ∧ posT size high i < size
 | 0 => by simp only [posT]; omega
 | i + 1 => by
  have ih := posT_range hs hh i
  have hsb := step_bound (size := size) (by omega) (posT size high i)
  obtain ⟨m, hm, hm0⟩ := hit0 hs hsb.1 hsb.2
  simp only [posT, nextT]
  have := skipT_lt hh 5000 m _ hm0 (by omega)
  have := skipT_bound (size := size) (high := high) (by omega) 5000 _ hsb.1 hsb.2
  omega
end Go.Proofs.Ytlclleihoampdaa
namespace Go.Proofs.Ytlclleihoampdaa
open Go Go.Sx Go.Proofs
set_option maxRecDepth 10000 in
set_option maxHeartbeats 40000000 in
theorem table_ok (l : List Int) (log : Int) (cap : Nat) (hl : ∀ c ∈ l, isI16 c) (hlog : -9223372036854775808 ≤ log ∧ log ≤ 9223372036854775807) (hR : Right l log) :
  Con Try.prog 66 [.slice 0 .z 1 l.length cap, .int .i64 log] [.ro .i16 l] (fun v H R => R = [] ∧ v = .tup [.slice 1 .z 3 (2 ^ log.toNat : Int).toNat (2 ^ log.toNat : Int).toNat, .int .i64 0] ∧
   H = [.ro .i16 l, .arr 79 3 (2 ^ log.toNat : Int).toNat (fun m => [.int .u8 (symT l (2 ^ log.toNat) m), .int .u8 (tabB l log (2 ^ log.toNat) (2 ^ log.toNat : Int).toNat m), .int .u16 (tabC l log (2 ^ log.toNat) (2 ^ log.toNat : Int).toNat m)])]) := by
 have hright := right_con l log cap hl hlog
 rw [show decide (Right l log) = true by simp [hR]] at hright
 have hparts := parts_con
 have hlen := len_con
 have f75 := fn95
 have f116 := fn119
 have f70 := fn94
 refine con_gen (con_cut 2 (by simp) (con_drop (con_walk hmix fn66 ?_)))
 intro vb vc vw vtoN vofN vaddN vsubN vmaxI vminI vcutN vgd vst vln vrep vsub vonto vsplice vstrEq vbyteV vnotB veqB hw qb qc qw qtoN qofN qaddN qsubN qmaxI qminI qcutN qgd qst qln qrep qsub qonto qsplice qstrEq qbyteV qnotB qeqB
 have hm := hmix
 generalize Try.prog = P at *
 obtain ⟨g1, g2, g3, g4, g5, g6, g7⟩ := hR
 have hpl := pow_log ⟨g1, g2⟩
 obtain ⟨size, hsz, hszs⟩ := size_of ⟨g1, g2⟩
 rw [hsz] at hpl g7
 rw [hsz]
 obtain ⟨N, hN⟩ : ∃ N : Nat, size = N := ⟨size.toNat, by omega⟩
 have hNt : size.toNat = N := by omega
 rw [hNt]
 generalize hn : l.length = n at *
 have hto : ∀ i : Nat, vtoN (i : Int) = i := fun i => by simp only [qtoN, Int.toNat_natCast]
 have htoN : vtoN size = N := by rw [qtoN]; exact hNt
 have hadd0 : ∀ i, vaddN 0 i = i := fun i => by simp only [qaddN, Nat.zero_add]
 have hvln : vln l = n := by simp only [qln, hn]
 have hvgd : ∀ i, vgd l i = l.getD i 0 := fun i => by simp only [qgd]
 have hmem : ∀ i, i < n → l.getD i 0 ∈ l := fun i hi => by rw [List.getD_eq_getElem?_getD, List.getElem?_eq_getElem (by omega)]; exact List.getElem_mem _
 have hsyd : symT l size = placeT size (size - negN l n) (rowT l n) (negS l size n) (size - negN l n).toNat := by rw [← hn]; rfl
 have hsyr := symT_range (l := l) size (by omega)
 generalize hsyT : symT l size = syT at *
 have hB0 : tabB l log size 0 = fun _ => 0 := rfl
 have hC0 : tabC l log size 0 = fun _ => 0 := rfl
 have hBs := tabB_step l log size
 have hCs := tabC_step l log size
 rw [hsyT] at hBs hCs
 generalize tabB l log size = tB at *
 generalize tabC l log size = tC at *
 cbv
 refine call_con (ρ := [(0, .z)]) hright ⟨by rfl, by rfl, by rfl, by cbv; exact ⟨view_refl _, trivial⟩⟩ ?_
 rintro v H R js ⟨rfl, rfl, rfl⟩
 have hnb : vnotB true = false := by simp only [qnotB]; rfl
 have e2 : vw .u64 log = log := by rw [qw]; exact wrap_u64 (by omega) (by omega)
 have e3 : vb .shl .i64 1 log = size := by rw [qb, one_shl (by omega) (by omega), hsz]
 cbv
 rw [hnb]
 cbv
 rw [e2, e3, htoN]
 refine ⟨⟨by omega⟩, ⟨by omega⟩, ⟨by omega⟩, ⟨by omega⟩, ⟨by omega⟩, fun _ => rfl, fun _ => rfl, fun _ => rfl, ?_⟩
 have hx16 : ∀ i, i < n → isI16 (l.getD i 0) := fun i hi => hl _ (hmem i hi)
 have hgx : ∀ i, i < n → -1 ≤ l.getD i 0 := fun i hi => g6 _ (hmem i hi)
 have hneg := negN_range l
 have hrl := rowT_length l g6
 have hsn : sumP (l.take n) = size := by rw [List.take_of_length_le (by omega)]; exact g7
 have htk := sumP_take_le g6
 have hv256 : vrep 256 0 = List.replicate 256 0 := by simp only [qrep]
 refine WX.cv (Cv.nilB 3 0 5 .u8 (by rfl) (by cbv; exact ⟨fun _ => rfl, trivial⟩) (Cv.arrEq 1 (fun m => [.int .u8 (negS l size 0 m), .int .u8 0, .int .u16 0]) (by rfl) (by intro i; rfl) (Cv.here ?_)))
 generalize hs0 : negS l size 0 = sy0
 cbv
 rw [hv256]
 generalize hxs0 : List.replicate 256 (0 : Int) = xs0
 refine loop_fam (α := Int × Int × (Nat → Int) × List Int × List Int × Nat × Nat) ([11, 12] ++ [31, 32, 33, 34, 35, 36, 37, 38, 39, 40, 41, 42, 43, 44, 45, 46, 47, 48, 49, 50, 51, 52, 53, 54, 55, 56, 57, 58]) [5]
  (fun (k, high, sy, xs, row, rl, c) => [(30, .int .i64 k), (8, .int .i64 high)])
  (fun (k, high, sy, xs, row, rl, c) => [(1, .arr 79 3 N (fun m => [.int .u8 (sy m), .int .u8 0, .int .u16 0])), (3, .one 25 [.slice 5 .z 1 rl c]), (4, .ints 176 .i64 xs), (5, .buf 5 .u8 row c)])
  (fun (k, high, sy, xs, row, rl, c) => ∃ i : Nat, k = i ∧ i ≤ n ∧ high = size - negN l i ∧ sy = negS l size i ∧ row = rowT l i ∧ rl = row.length ∧ xs.length = 256 ∧ ∀ s, xs.getD s 0 = if s < i then partsN (l.getD s 0) else 0)
  (fun (k, high, sy, xs, row, rl, c) => n - k.toNat) hw hm ?_ ?_
 ·refine Cv.genAt [30] [] (Cv.fold ([11, 12] ++ [31, 32, 33, 34, 35, 36, 37, 38, 39, 40, 41, 42, 43, 44, 45, 46, 47, 48, 49, 50, 51, 52, 53, 54, 55, 56, 57, 58]) 6 [5] (by exact Nat.le_refl _) (by exact Nat.le_of_ble_eq_true rfl) (by rfl) (by cbv) ?_)
  intro js
  refine ⟨(_, _, _, _, _, _, _), ?_, js, rfl⟩
  refine ⟨0, rfl, by omega, by simp [negN], hs0.symm, rfl, rfl, by rw [← hxs0]; simp, fun s => ?_⟩
  rw [← hxs0, if_neg (by omega), List.getD_eq_getElem?_getD, List.getElem?_replicate]
  split <;> rfl
 ·rintro ⟨k, high, sy, xs, row, rl, c⟩ js ⟨i, hk, hi, hhigh, hsy, hrow, hrl1, hxl, hxg⟩
  cbv
  split
  rotate_left
  ·rename_i hlt
   have hin : i = n := by rw [qc, lss_false] at hlt; simp only [qofN] at hlt; simp only [nc] at *; omega
   subst hin
   cbv
   refine ⟨fun _ => rfl, ?_⟩
   refine inl_walk hw hm f75 (by rfl) ?_
   cbv
   refine ⟨fun _ => rfl, fun _ => rfl, ?_⟩
   intro js1
   cbv
   refine range_rule (by rfl) (by rfl) (by cbv; exact ⟨fun _ => rfl, trivial⟩) (by cbv; exact ⟨fun _ => rfl, trivial⟩) (by rfl) ?_
   refine inl_walk hw hm f116 (by rfl) ?_
   have hnegi := hneg i
   have hh0 : 0 ≤ high := by have := hrl i (by omega); rw [hsn] at this; simp only [nc] at *; omega
   obtain ⟨Hn, hHn⟩ : ∃ Hn : Nat, high = Hn := ⟨high.toNat, by omega⟩
   have hrowl : row.length = Hn := by have := hrl i (by omega); rw [hsn, ← hrow] at this; simp only [nc] at *; omega
   have hsyd2 : syT = placeT size high row sy Hn := by rw [hsyd, ← hhigh, hrow, hsy, hHn]; simp
   have hpos := fun h => posT_range (size := size) (high := high) hszs h
   have hp0 : posT size high 0 = 0 := rfl
   have hps : ∀ q, posT size high (q + 1) = skipT size high 5000 (stepT size (posT size high q)) := fun q => rfl
   have hpl0 : placeT size high row sy 0 = sy := rfl
   have hpls : ∀ q, placeT size high row sy (q + 1) = updI (placeT size high row sy q) (posT size high q).toNat (row.getD q 0) := fun q => rfl
   have hstd : ∀ a, stepT size a = (a + size / 2 + size / 8 + 3) % size := fun a => rfl
   have hsb := fun a => step_bound (size := size) (by omega) a
   have hhit := fun a h0 h1 => hit0 (size := size) hszs (a := a) h0 h1
   have hsk1 := @skipT_step size high
   have hsk2 := @skipT_here size high
   generalize placeT size high row sy = PL at *
   generalize posT size high = PO at *
   generalize stepT size = ST at *
   generalize skipT size high = SK at *
   have hNle : N ≤ 4096 := by simp only [nc] at *; omega
   clear hparts hright hrl htk hneg
   cbv
   refine loop_fam (α := Int × Int × Int × (Nat → Int)) [7, 8, 9, 10, 11, 12, 13, 14, 15, 16, 17, 18, 19, 20, 21, 22, 23, 24, 25, 26, 27, 28, 29, 30, 31, 32, 33, 34, 35, 36, 37] [5]
    (fun (cnt, a, ix, sy2) => [(6, .int .i64 cnt), (4, .int .i64 a)])
    (fun (cnt, a, ix, sy2) => [(1, .arr 79 3 N (fun m => [.int .u8 (sy2 m), .int .u8 0, .int .u16 0])), (6, .one 3 [.int .i64 ix])])
    (fun (cnt, a, ix, sy2) => ∃ q : Nat, cnt = q ∧ q ≤ Hn ∧ ix = q ∧ a = PO q ∧ sy2 = PL q)
    (fun (cnt, a, ix, sy2) => Hn - cnt.toNat) hw hm ?_ ?_
   ·refine Cv.genAt [6, 4] [6] (Cv.fold [7, 8, 9, 10, 11, 12, 13, 14, 15, 16, 17, 18, 19, 20, 21, 22, 23, 24, 25, 26, 27, 28, 29, 30, 31, 32, 33, 34, 35, 36, 37] 11 [5] (by exact Nat.le_refl _) (by exact Nat.le_of_ble_eq_true rfl) (by rfl) (by cbv) ?_)
    intro js
    refine ⟨(_, _, _, _), ?_, js, rfl⟩
    exact ⟨0, rfl, by omega, rfl, hp0.symm, hpl0.symm⟩
   ·rintro ⟨cnt, a, ix, sy2⟩ js ⟨q, hcnt, hqH, hix, ha, hsy2⟩
    cbv
    split
    rotate_left
    ·rename_i hlt2
     have hqe : q = Hn := by rw [qc, lss_false] at hlt2; simp only [nc] at *; omega
     have hsyE : sy2 = syT := by rw [hsy2, hqe, hsyd2]
     subst hsyE
     cbv
     intro js2
     cbv
     have hNI : vofN N = size := by simp only [qofN]; exact hN.symm
     have hpsum := fun s => partsN_le_sum g6 s
     rw [g7] at hpsum
     have hcr := cntT_range sy2
     have hcs : ∀ s q, cntT sy2 s (q + 1) = cntT sy2 s q + (if sy2 q = s then 1 else 0) := fun _ _ => rfl
     have hc0 : ∀ s, cntT sy2 s 0 = 0 := fun _ => rfl
     have hxd : ∀ q, xT l sy2 q = partsN (l.getD (sy2 q).toNat 0) + cntT sy2 (sy2 q) q := fun _ => rfl
     generalize xT l sy2 = XT at *
     have hbd : ∀ x, bT log x = IntKind.u8.wrap (log + 1 - blen x) := fun _ => rfl
     have hcd : ∀ x, baseT log size x = IntKind.u16.wrap (bV .sub .i64 (bV .shl .i64 x (IntKind.u64.wrap (log + 1 - blen x))) size) := fun _ => rfl
     generalize bT log = bTf at *
     generalize baseT log size = bAf at *
     rw [hNI]
     clear hps hpls hpos hhit hsk1 hsk2 hsb hstd
     refine WX.cv (Cv.arrEq 1 (fun m => [.int .u8 (sy2 m), .int .u8 (tB 0 m), .int .u16 (tC 0 m)]) (by rfl) (by intro i; rw [hB0, hC0]) (Cv.here ?_))
     cbv
     refine loop_fam (α := Int × (Nat → Int) × (Nat → Int) × List Int) ([15, 16, 17] ++ [76, 77, 78, 79, 80, 81, 82, 83, 84, 85, 86, 87, 88, 89, 90, 91, 92, 93, 94, 95, 96, 97, 98, 99, 100, 101, 102, 103, 104, 105, 106, 107, 108, 109, 110, 111, 112, 113, 114, 115, 116, 117, 118, 119, 120]) [5]
      (fun (k, b, s, xs) => [(75, .int .i64 k)])
      (fun (k, b, s, xs) => [(1, .arr 79 3 N (fun m => [.int .u8 (sy2 m), .int .u8 (b m), .int .u16 (s m)])), (4, .ints 176 .i64 xs)])
      (fun (k, b, s, xs) => ∃ q : Nat, k = q ∧ q ≤ N ∧ b = tB q ∧ s = tC q ∧ xs.length = 256 ∧ ∀ s, xs.getD s 0 = partsN (l.getD s 0) + cntT sy2 s q)
      (fun (k, b, s, xs) => N - k.toNat) hw hm ?_ ?_
     ·refine Cv.genAt [75] [] (Cv.fold ([15, 16, 17] ++ [76, 77, 78, 79, 80, 81, 82, 83, 84, 85, 86, 87, 88, 89, 90, 91, 92, 93, 94, 95, 96, 97, 98, 99, 100, 101, 102, 103, 104, 105, 106, 107, 108, 109, 110, 111, 112, 113, 114, 115, 116, 117, 118, 119, 120]) 11 [5] (by exact Nat.le_refl _) (by exact Nat.le_of_ble_eq_true rfl) (by rfl) (by cbv) ?_)
      intro js
      refine ⟨(_, _, _, _), ?_, js, rfl⟩
      refine ⟨0, rfl, by omega, rfl, rfl, hxl, fun s => ?_⟩
      rw [hxg, hc0]
      by_cases h : s < i
      ·rw [if_pos h]; omega
      ·rw [if_neg h, List.getD_eq_getElem?_getD, List.getElem?_eq_none (by omega)]
       have : partsN ((none : Option Int).getD 0) = 0 := by decide
       omega
     ·rintro ⟨k3, b3, s3, xs3⟩ js ⟨q3, hk3, hq3, hb3, hs3, hxl3, hxg3⟩
      cbv
      split
      rotate_left
      ·rename_i hlt3
       have hqe3 : q3 = N := by rw [qc, lss_false] at hlt3; simp only [nc] at *; omega
       subst hqe3
       subst hb3 hs3
       cbv
      ·rename_i hlt3
       have hqe3 : q3 < N := by rw [qc, lss_true] at hlt3; simp only [nc] at *; omega
       have ht3 : vtoN k3 = q3 := by rw [hk3]; exact hto q3
       have hin3 : 0 ≤ k3 ∧ k3 < (N : Int) := by simp only [nc] at *; omega
       obtain ⟨hsr0, hsr1⟩ := hsyr q3
       have htsy : vtoN (sy2 q3) = (sy2 q3).toNat := by simp only [qtoN]
       have hin4 : 0 ≤ sy2 q3 ∧ sy2 q3 < ((256 : Nat) : Int) := by simp only [nc] at *; omega
       have hln3 : vln xs3 = 256 := by rw [qln]; exact hxl3
       have hgx3 : vgd xs3 (sy2 q3).toNat = XT q3 := by rw [qgd, hxd]; show xs3.getD _ 0 = _; have hcast : ((sy2 q3).toNat : Int) = sy2 q3 := Int.toNat_of_nonneg hsr0; rw [hxg3]; simp only [nc]; rw [hcast]
       have hxr0 := hpsum (sy2 q3).toNat
       have hxr1 := hcr (sy2 q3) q3
       have hxq := hxd q3
       generalize hxv : XT q3 = xv at *
       have hxv0 : 0 ≤ xv ∧ xv ≤ 8192 := by simp only [nc] at *; omega
       have exw : vw .u64 xv = xv := by rw [qw]; exact wrap_u64 (by omega) (by omega)
       have hlx := hlen xv (by omega)
       have hbl := blen_16 (x := xv) (by omega) (by omega)
       have hbv := hbd xv
       have hcv := hcd xv
       generalize blen xv = bl at *
       have enn : vb .sub .i64 (vb .add .i64 log 1) bl = log + 1 - bl := by
        have e : vb .add .i64 log 1 = log + 1 := by rw [qb, add_i64 (by omega) (by omega)]
        rw [e, qb, sub_i64 (by omega) (by omega)]
       generalize hnnv : log + 1 - bl = nn at *
       have hnn0 : 0 ≤ vw .u64 nn := by
        rw [qw]; simp only [IntKind.wrap, IntKind.bits, IntKind.signed]
        simp
        omega
       have eB : vw .u8 nn = bTf xv := by rw [hbv, qw]
       have eC : vw .u16 (vb .sub .i64 (vb .shl .i64 xv (vw .u64 nn)) size) = bAf xv := by rw [hcv, qw, qb]
       have hBq := hBs q3
       have hCq := hCs q3
       rw [hxv, ← hb3] at hBq
       rw [hxv, ← hs3] at hCq
       have ex1 : vb .add .i64 xv 1 = xv + 1 := by rw [qb, add_i64 (by omega) (by omega)]
       obtain ⟨k4, hk4⟩ : ∃ k4 : Int, k4 = ((q3 + 1 : Nat) : Int) := ⟨_, rfl⟩
       have ek4 : vb .add .i64 k3 1 = k4 := by simp only [nc] at *; rw [qb, add_i64 (by omega) (by omega)]; omega
       obtain ⟨xs4, hxs4⟩ : ∃ xs4, xs4 = xs3.set (sy2 q3).toNat (xv + 1) := ⟨_, rfl⟩
       have evs : vst xs3 (sy2 q3).toNat (xv + 1) = xs4 := by rw [qst, hxs4]
       have hxl4 : xs4.length = 256 := by rw [hxs4, List.length_set]; exact hxl3
       have hxg4 : ∀ s, xs4.getD s 0 = partsN (l.getD s 0) + cntT sy2 s (q3 + 1) := by
        intro s
        rw [hcs, hxs4, List.getD_eq_getElem?_getD, List.getElem?_set, hxl3]
        by_cases h : (sy2 q3).toNat = s
        ·have hsy : sy2 q3 = s := by simp only [nc] at *; omega
         rw [if_pos h, if_pos (by simp only [nc] at *; omega), if_pos hsy, ← hsy]
         show xv + 1 = _
         rw [hxq, hsy]
         simp only [Int.toNat_natCast]
         omega
        ·rw [if_neg h, if_neg (by simp only [nc] at *; omega), ← List.getD_eq_getElem?_getD, hxg3]
         simp only [nc]
         omega
       generalize hsq : sy2 q3 = sq at *
       generalize hsqn : sq.toNat = sqn at *
       generalize hb4 : tB (q3 + 1) = b4 at *
       generalize hs4 : tC (q3 + 1) = s4 at *
       generalize bTf xv = bx at *
       generalize bAf xv = ax at *
       generalize xv + 1 = xv1 at *
       cbv
       rw [ht3, hsq, htsy, hgx3, exw]
       refine ⟨⟨hin3⟩, ⟨hqe3⟩, ⟨hin4⟩, ⟨by simp only [nc] at *; omega⟩, ?_⟩
       refine call_con (ρ := []) hlx ⟨by rfl, by rfl, by rfl, by cbv; exact ⟨fun _ => rfl, trivial⟩⟩ ?_
       rintro v H R js5 ⟨rfl, rfl, rfl⟩
       cbv
       rw [hsq, htsy, hgx3, enn, eB, eC, ex1, evs, updF_3_1, updF_3_2, hBq, hCq, ek4]
       refine ⟨fun _ => rfl, ⟨hqe3⟩, ⟨hin4⟩, ⟨by simp only [nc] at *; omega⟩, ⟨hnn0⟩, ⟨hqe3⟩, ⟨⟨by simp only [nc] at *; omega⟩, trivial⟩, ⟨hqe3⟩, ⟨hqe3⟩, ⟨hin4⟩, ⟨by simp only [nc] at *; omega⟩, ⟨hin4⟩, ⟨by simp only [nc] at *; omega⟩, ?_⟩
       refine Cv.fold ([15, 16, 17] ++ [76, 77, 78, 79, 80, 81, 82, 83, 84, 85, 86, 87, 88, 89, 90, 91, 92, 93, 94, 95, 96, 97, 98, 99, 100, 101, 102, 103, 104, 105, 106, 107, 108, 109, 110, 111, 112, 113, 114, 115, 116, 117, 118, 119, 120]) 11 [5] (by exact Nat.le_refl _) (by exact Nat.le_of_ble_eq_true rfl) (by rfl) (by cbv) ?_
       intro js
       refine ⟨(_, _, _, _), ?_, js, rfl⟩
       refine ⟨⟨q3 + 1, hk4, by omega, hb4.symm, hs4.symm, hxl4, hxg4⟩, ?_⟩
       show N - k4.toNat < N - k3.toNat
       simp only [nc] at *
       omega
    ·rename_i hlt2
     have hqe : q < Hn := by rw [qc, lss_true] at hlt2; simp only [nc] at *; omega
     have hpq := hpos (by simp only [nc] at *; omega) q
     have hpq1 := hpos (by simp only [nc] at *; omega) (q + 1)
     obtain ⟨hst0, hst1⟩ := hsb (PO q)
     obtain ⟨mm, hmm, hmm0⟩ := hhit _ hst0 hst1
     have hgrow : vgd row q = row.getD q 0 := by simp only [qgd]
     have hlr : vln row = Hn := by simp only [qln, hrowl]
     have htq : vtoN ix = q := by rw [hix]; exact hto q
     have hta : vtoN a = (PO q).toNat := by rw [ha, qtoN]
     have hin1 : 0 ≤ ix ∧ ix < (rl : Int) := by simp only [nc] at *; omega
     have hin2 : 0 ≤ a ∧ a < (N : Int) := by simp only [nc] at *; omega
     have hinN : (PO q).toNat < N := by simp only [nc] at *; omega
     obtain ⟨q1, hq1⟩ : ∃ q1 : Int, q1 = ((q + 1 : Nat) : Int) := ⟨_, rfl⟩
     have ei : vb .add .i64 ix 1 = q1 := by simp only [nc] at *; rw [qb, add_i64 (by omega) (by omega)]; omega
     have ec : vb .add .i64 cnt 1 = q1 := by simp only [nc] at *; rw [qb, add_i64 (by omega) (by omega)]; omega
     have eS : ∀ x, 0 ≤ x → x < size → vb .rem .i64 (vb .add .i64 (vb .add .i64 (vb .add .i64 x (vb .quo .i64 size 2)) (vb .quo .i64 size 8)) 3) size = ST x := by
      intro x h0 h1
      have e1 : vb .quo .i64 size 2 = size / 2 := by rw [qb, quo_i64 (by omega) (by omega) (by omega)]
      have e2 : vb .quo .i64 size 8 = size / 8 := by rw [qb, quo_i64 (by omega) (by omega) (by omega)]
      have e3 : vb .add .i64 x (size / 2) = x + size / 2 := by rw [qb, add_i64 (by omega) (by omega)]
      have e4 : vb .add .i64 (x + size / 2) (size / 8) = x + size / 2 + size / 8 := by rw [qb, add_i64 (by omega) (by omega)]
      have e5 : vb .add .i64 (x + size / 2 + size / 8) 3 = x + size / 2 + size / 8 + 3 := by rw [qb, add_i64 (by omega) (by omega)]
      rw [e1, e2, hstd, e3, e4, e5, qb, rem_i64 (by omega)]
     have eSa := eS a (by omega) (by omega)
     cbv
     refine yield_walk hw hm (by rfl) ?_
     cbv
     rw [htq, hadd0, hta]
     refine ⟨⟨hin1⟩, ⟨by omega⟩, ⟨by omega⟩, ⟨hin2⟩, ⟨hinN⟩, ?_⟩
     intro js2
     rw [hgrow, updF_3_0, ei]
     have hPLq : updI sy2 (PO q).toNat (row.getD q 0) = PL (q + 1) := by rw [hpls, hsy2]
     rw [hPLq]
     generalize hsy3 : PL (q + 1) = sy3 at *
     have hnb2 : vnotB true = false := hnb
     cbv
     rw [hnb2]
     cbv
     rw [eSa]
     generalize hSTa : ST a = sta at *
     refine ⟨⟨by omega⟩, ?_⟩
     refine loop_fam (α := Nat × Int) [22, 23, 24, 25, 26, 27, 28, 29, 30, 31, 32, 33, 34, 35, 36] [5] (fun (nn, a) => [(4, .int .i64 a)]) (fun _ => [])
      (fun (nn, a) => ∃ m, SK nn a = PO (q + 1) ∧ iterT size m a = 0 ∧ m ≤ nn ∧ 0 ≤ a ∧ a < size) (fun (nn, a) => nn) hw hm ?_ ?_
     ·refine Cv.fold [22, 23, 24, 25, 26, 27, 28, 29, 30, 31, 32, 33, 34, 35, 36] 11 [5] (by exact Nat.le_refl _) (by exact Nat.le_of_ble_eq_true rfl) (by rfl) (by cbv) ?_
      intro js
      refine ⟨(5000, _), ?_, js, rfl⟩
      rw [← ha, hSTa] at hst0 hst1 hmm0
      exact ⟨mm, by rw [hps, ← ha, hSTa], hmm0, by omega, hst0, hst1⟩
     ·rintro ⟨nn, a2⟩ js ⟨m2, hSK, hit, hm2, ha0, ha1⟩
      have eS2 := eS a2 ha0 ha1
      cbv
      split
      rotate_left
      ·rename_i hge
       rw [qc, geq_false] at hge
       have hh1 : SK nn a2 = a2 := hsk2 (by omega)
       cbv
       rw [ec]
       refine Cv.fold [7, 8, 9, 10, 11, 12, 13, 14, 15, 16, 17, 18, 19, 20, 21, 22, 23, 24, 25, 26, 27, 28, 29, 30, 31, 32, 33, 34, 35, 36, 37] 11 [5] (by exact Nat.le_refl _) (by exact Nat.le_of_ble_eq_true rfl) (by rfl) (by cbv) ?_
       intro js
       refine ⟨(_, _, _, _), ?_, js, rfl⟩
       refine ⟨⟨q + 1, hq1, by omega, hq1, by rw [← hSK, hh1], hsy3.symm⟩, ?_⟩
       show Hn - q1.toNat < Hn - cnt.toNat
       simp only [nc] at *
       omega
      ·rename_i hge
       rw [qc, geq_true] at hge
       obtain ⟨n3, m3, hn3, hm3, hsk, hit3⟩ := hsk1 (a := a2) (n := nn) (m := m2) (by simp only [nc] at *; omega) (by omega) hit hm2
       obtain ⟨hsb2, hsb3⟩ := hsb a2
       cbv
       generalize hhz : vc .eql high 0 = hz
       have hhz2 : hz = false := by
        cases hz with
        | false => rfl
        | true => rw [qc, eql_true] at hhz; simp only [nc] at *; omega
       rw [hhz2]
       cbv
       rw [eS2]
       refine ⟨⟨by omega⟩, ?_⟩
       refine Cv.fold [22, 23, 24, 25, 26, 27, 28, 29, 30, 31, 32, 33, 34, 35, 36] 11 [5] (by exact Nat.le_refl _) (by exact Nat.le_of_ble_eq_true rfl) (by rfl) (by cbv) ?_
       intro js
       refine ⟨(n3, _), ?_, js, rfl⟩
       refine ⟨⟨m3, by rw [← hsk]; exact hSK, hit3, by omega, hsb2, hsb3⟩, ?_⟩
       show n3 < nn
       omega
  ·rename_i hlt
   have hlt : i < n := by rw [qc, lss_true] at hlt; simp only [qofN] at hlt; simp only [nc] at *; omega
   have hti : vtoN k = i := by rw [hk]; exact hto i
   have hinR : 0 ≤ k ∧ k < (n : Int) := by simp only [nc] at *; omega
   have hin256 : 0 ≤ k ∧ k < ((256 : Nat) : Int) := by simp only [nc] at *; omega
   have hln : vln xs = 256 := by rw [qln]; exact hxl
   have h16 := hx16 i hlt
   have hpc := hparts _ h16
   have hgi := hgx i hlt
   have hlti : i < 256 := by omega
   have ew : vw .u8 k = k := by rw [qw]; simp only [nc] at *; exact wrap_u8 (by omega) (by omega)
   have ek : vb .add .i64 k 1 = ((i + 1 : Nat) : Int) := by simp only [nc] at *; rw [qb, add_i64 (by omega) (by omega)]; omega
   have hmu : n - ((i + 1 : Nat) : Int).toNat < n - k.toNat := by rw [hk]; simp only [nc] at *; omega
   have hn1 := hneg (i + 1)
   have hn0 := hneg i
   have hnd : negN l (i + 1) = negN l i + (if l.getD i 0 < 0 then 1 else 0) := rfl
   have hsd : negS l size (i + 1) = (if l.getD i 0 < 0 then updI (negS l size i) (size - negN l (i + 1)).toNat i else negS l size i) := rfl
   have hrd : rowT l (i + 1) = rowT l i ++ List.replicate (l.getD i 0).toNat (i : Int) := rfl
   have hxg2 : ∀ v, (∀ s, (xs.set i v).getD s 0 = if s = i then v else xs.getD s 0) := by
    intro v s
    rw [List.getD_eq_getElem?_getD, List.getElem?_set, hxl, List.getD_eq_getElem?_getD]
    by_cases h : i = s
    ·subst h; simp [hlti]
    ·rw [if_neg h, if_neg (fun e => h e.symm)]
   have hxgn : ∀ s, (xs.set i (partsN (l.getD i 0))).getD s 0 = if s < i + 1 then partsN (l.getD s 0) else 0 := by
    intro s
    rw [hxg2, hxg]
    by_cases h : s = i
    ·subst h; rw [if_pos rfl, if_pos (by omega)]
    ·rw [if_neg h]
     by_cases h2 : s < i
     ·rw [if_pos h2, if_pos (by omega)]
     ·rw [if_neg h2, if_neg (by omega)]
   have hvst : ∀ v, vst xs i v = xs.set i v := fun v => by rw [qst]
   have hrowl := hrl i (by omega)
   have hrowl1 := hrl (i + 1) (by omega)
   have htki := htk (i + 1)
   have htk0 := htk i
   clear hrl htk hright hlen
   cbv
   rw [hti, hadd0, hvgd]
   generalize hci : l.getD i 0 = ci at *
   generalize hpp : partsN ci = pc at *
   refine ⟨⟨hinR⟩, ⟨by omega⟩, ⟨by omega⟩, ?_⟩
   refine call_con (ρ := []) hpc ⟨by rfl, by rfl, by rfl, by cbv; exact ⟨fun _ => rfl, trivial⟩⟩ ?_
   rintro v H R js2 ⟨rfl, rfl, rfl⟩
   cbv
   rw [hti, hvst]
   have hx2l : (xs.set i pc).length = 256 := by rw [List.length_set]; exact hxl
   generalize hxs2 : xs.set i pc = xs2 at *
   generalize hz : vc .lss ci 0 = z
   cases z
   rotate_left
   ·rw [qc, lss_true] at hz
    rw [if_pos hz] at hnd hsd
    have eh : vb .sub .i64 high 1 = size - negN l (i + 1) := by rw [qb, sub_i64 (by omega) (by omega)]; omega
    have ht0 : vtoN (size - negN l (i + 1)) = (size - negN l (i + 1)).toNat := by simp only [qtoN]
    generalize hh2 : size - negN l (i + 1) = high2 at *
    generalize hk2 : ((i + 1 : Nat) : Int) = k2 at *
    generalize hh2n : high2.toNat = h2n at *
    cbv
    rw [eh, ht0, ew, updF_3_0, ek]
    generalize hsy2 : updI sy h2n k = sy2 at *
    refine ⟨fun _ => rfl, ⟨hin256⟩, ⟨by omega⟩, ⟨by simp only [nc] at *; omega⟩, ⟨by simp only [nc] at *; omega⟩, ?_⟩
    refine Cv.fold ([11, 12] ++ [31, 32, 33, 34, 35, 36, 37, 38, 39, 40, 41, 42, 43, 44, 45, 46, 47, 48, 49, 50, 51, 52, 53, 54, 55, 56, 57, 58]) 6 [5] (by exact Nat.le_refl _) (by exact Nat.le_of_ble_eq_true rfl) (by rfl) (by cbv) ?_
    intro js
    refine ⟨(_, _, _, _, _, _, _), ?_, js, rfl⟩
    refine ⟨⟨i + 1, by first | exact hk2.symm | rfl, hlt, hh2.symm, ?_, ?_, hrl1, hx2l, hxgn⟩, hmu⟩
    ·rw [hsd, ← hsy2, hsy, hk]; try rfl
    ·rw [hrd, hrow]
     have : ci.toNat = 0 := by omega
     rw [this]; simp
   ·rw [qc, lss_false] at hz
    rw [if_neg hz] at hnd hsd
    obtain ⟨q, hq⟩ : ∃ q : Nat, ci = q := ⟨ci.toNat, by omega⟩
    have hci15 : ci ≤ 32767 := h16.2
    have hnr : row.length ≤ 4096 := by rw [hrow]; simp only [nc] at *; omega
    cbv
    refine ⟨fun _ => rfl, ⟨hin256⟩, ⟨by omega⟩, ?_⟩
    refine loop_fam (α := Int × List Int × Nat × Nat) [51, 52, 53, 54, 55, 56, 57] [5]
     (fun (j, row, rl, c) => [(50, .int .i16 j)])
     (fun (j, row, rl, c) => [(3, .one 25 [.slice 5 .z 1 rl c]), (5, .buf 5 .u8 row c)])
     (fun (j, row, rl, c) => ∃ p : Nat, j = p ∧ p ≤ q ∧ row = rowT l i ++ List.replicate p (i : Int) ∧ rl = row.length)
     (fun (j, row, rl, c) => q - j.toNat) hw hm ?_ ?_
    ·refine Cv.genAt [50] [] (Cv.fold [51, 52, 53, 54, 55, 56, 57] 6 [5] (by exact Nat.le_refl _) (by exact Nat.le_of_ble_eq_true rfl) (by rfl) (by cbv) ?_)
     intro js
     refine ⟨(_, _, _, _), ?_, js, rfl⟩
     exact ⟨0, rfl, by omega, by simp [hrow], hrl1⟩
    ·rintro ⟨j, row2, rl2, c2⟩ js ⟨p, hj, hpq, hrow2, hrl2⟩
     have hl2 : row2.length ≤ 40000 := by
      rw [hrow2, List.length_append, List.length_replicate, ← hrow]; simp only [nc] at *; omega
     have hjw : vb .add .i16 j 1 = ((p + 1 : Nat) : Int) ∨ p = q := by
      by_cases h : p = q
      ·exact .inr h
      ·refine .inl ?_
       rw [qb]
       show IntKind.i16.wrap (j + 1) = _
       simp only [nc] at *
       simp [IntKind.wrap, IntKind.bits, IntKind.signed]
       omega
     cbv
     split
     rotate_left
     ·rename_i hlt2
      have hpe : p = q := by rw [qc, lss_false] at hlt2; simp only [nc] at *; omega
      cbv
      rw [ek]
      generalize hk2 : ((i + 1 : Nat) : Int) = k2 at *
      refine Cv.fold ([11, 12] ++ [31, 32, 33, 34, 35, 36, 37, 38, 39, 40, 41, 42, 43, 44, 45, 46, 47, 48, 49, 50, 51, 52, 53, 54, 55, 56, 57, 58]) 6 [5] (by exact Nat.le_refl _) (by exact Nat.le_of_ble_eq_true rfl) (by rfl) (by cbv) ?_
      intro js
      refine ⟨(_, _, _, _, _, _, _), ?_, js, rfl⟩
      refine ⟨⟨i + 1, by first | exact hk2.symm | rfl, hlt, ?_, ?_, ?_, hrl2, hx2l, hxgn⟩, hmu⟩
      ·rw [hhigh, hnd]; omega
      ·rw [hsd, hsy]
      ·rw [hrd, hrow2, hpe, hq]; rfl
     ·rename_i hlt2
      have hpe : p < q := by rw [qc, lss_true] at hlt2; simp only [nc] at *; omega
      have hjw := hjw.resolve_right (by omega)
      have hsub : vsub [k] 0 1 = [k] := by simp only [qsub]; rfl
      have honto : vonto row2 rl2 [k] = row2 ++ [k] := by rw [qonto, hrl2]; simp
      have hlr : vln row2 = rl2 := by simp only [qln, hrl2]
      have hl1 : vln [k] = 1 := by simp only [qln]; rfl
      have ha1 : vaddN rl2 1 = rl2 + 1 := by simp only [qaddN]
      have ha01 : vaddN 0 1 = 1 := by simp only [qaddN]
      have hl3 : row2.length + 1 ≤ 140737488355328 := by omega
      rw [← hrl2] at hl3
      cbv
      rw [ew]
      refine ⟨fun _ => rfl, ⟨by rw [ha01, hl1]; exact Nat.le_refl _⟩, ⟨by rw [hlr]; exact Nat.le_refl _⟩, ⟨Nat.le_refl _⟩, ⟨by rw [ha1]; omega⟩, fun _ => rfl, ?_⟩
      intro c3 js3 hle3
      cbv
      rw [hsub, honto, hjw, ha1]
      generalize hrow3 : row2 ++ [k] = row3 at *
      refine Cv.fold [51, 52, 53, 54, 55, 56, 57] 6 [5] (by exact Nat.le_refl _) (by exact Nat.le_of_ble_eq_true rfl) (by rfl) (by cbv) ?_
      intro js
      refine ⟨(_, _, _, _), ?_, js, rfl⟩
      refine ⟨⟨p + 1, rfl, hpe, ?_, ?_⟩, ?_⟩
      ·rw [← hrow3, hrow2, List.replicate_succ', List.append_assoc, hk]; try rfl
      ·rw [← hrow3, List.length_append, hrl2]; try rfl
      ·show q - ((p + 1 : Nat) : Int).toNat < q - j.toNat
       simp only [nc] at *
       omega
end Go.Proofs.Ytlclleihoampdaa
namespace Go.Proofs.Ytlclleihoampdaa
open Go Go.Sx Go.Proofs
def sumI (f : Nat → Int) : Nat → Int
 | 0 => 0
 | n + 1 => sumI f n + f n
theorem sumI_congr {f g : Nat → Int} : ∀ {n : Nat}, (∀ i, i < n → f i = g i) → sumI f n = sumI g n
 | 0, _ => rfl
 | n + 1, h => by simp only [sumI]; rw [sumI_congr (fun i hi => h i (by omega)), h n (by omega)]
theorem sumI_upd {f : Nat → Int} {s : Nat} {v : Int} : ∀ {n : Nat}, s < n → sumI (fun i => if i = s then v else f i) n = sumI f n - f s + v
 | 0, h => by omega
 | n + 1, h => by
  simp only [sumI]
  by_cases hs : s = n
  ·subst hs
   rw [if_pos rfl, sumI_congr (g := f) (fun i hi => by rw [if_neg (by omega)])]
   omega
  ·rw [if_neg (by omega), sumI_upd (by omega)]
   omega
theorem sumI_nonneg {f : Nat → Int} : ∀ {n : Nat}, (∀ i, i < n → 0 ≤ f i) → 0 ≤ sumI f n
 | 0, _ => by simp [sumI]
 | n + 1, h => by
  have := sumI_nonneg (fun i hi => h i (by omega) : ∀ i, i < n → 0 ≤ f i)
  have := h n (by omega)
  simp only [sumI]; omega
theorem sumI_mono {f : Nat → Int} {m : Nat} : ∀ {n : Nat}, (∀ i, i < n → 0 ≤ f i) → m ≤ n → sumI f m ≤ sumI f n
 | 0, _, h => by
  have : m = 0 := by omega
  subst this; exact Int.le_refl _
 | n + 1, h, hm => by
  by_cases hs : m = n + 1
  ·subst hs; exact Int.le_refl _
  ·have := sumI_mono (n := n) (m := m) (fun i hi => h i (by omega)) (by omega)
   have := h n (by omega)
   simp only [sumI]; omega
theorem sumI_one {f : Nat → Int} {n s : Nat} (h : ∀ i, i < n → 0 ≤ f i) (hs : s < n) : f s ≤ sumI f n := by
 have h1 := sumI_mono (m := s + 1) h (by omega)
 have h2 := sumI_nonneg (f := f) (n := s) (fun i hi => h i (by omega))
 simp only [sumI] at h1
 omega
theorem sumP_sumI (l : List Int) : ∀ i, i ≤ l.length → sumP (l.take i) = sumI (fun s => partsN (l.getD s 0)) i
 | 0, _ => by simp [sumP, sumI]
 | i + 1, h => by
  rw [take_snoc (by omega), sumP_snoc, sumP_sumI l i (by omega)]; rfl
def posI (l : List Int) (s : Nat) : Int := if l.getD s 0 > 0 then 1 else 0
def somN (l : List Int) : Nat → Int := sumI (posI l)
def sumF (l : List Int) : Nat → Int := sumI (fun s => l.getD s 0)
def lastP (l : List Int) : Nat → Int
 | 0 => 0
 | i + 1 => if l.getD i 0 > 0 then i else lastP l i
def Able (l : List Int) (log : Int) : Prop := l.length ≤ 256 ∧ 5 ≤ log ∧ log ≤ 12 ∧ 1 ≤ somN l l.length ∧ somN l l.length ≤ 2 ^ log.toNat
instance (l : List Int) (log : Int) : Decidable (Able l log) := by unfold Able; infer_instance
theorem somN_range (l : List Int) : ∀ i, 0 ≤ somN l i ∧ somN l i ≤ i
 | 0 => by simp [somN, sumI]
 | i + 1 => by
  have := somN_range l i
  simp only [somN, sumI] at *
  unfold posI at *
  split <;> (push_cast; omega)
theorem lastP_range (l : List Int) : ∀ i, 0 ≤ lastP l i ∧ lastP l i ≤ i ∧ (1 ≤ i → lastP l i < i)
 | 0 => by simp [lastP]
 | i + 1 => by
  have := lastP_range l i
  simp only [lastP]
  split
  ·omega
  ·refine ⟨this.1, by omega, fun _ => by omega⟩
theorem lastP_pos (l : List Int) : ∀ i, 1 ≤ somN l i → 0 < l.getD (lastP l i).toNat 0
 | 0, h => by simp [somN, sumI] at h
 | i + 1, h => by
  simp only [lastP]
  split
  ·rename_i hp; simpa using hp
  ·rename_i hp
   refine lastP_pos l i ?_
   simp only [somN, sumI] at *
   unfold posI at h
   rw [if_neg hp] at h
   unfold posI; omega
theorem lastP_after (l : List Int) (hl : ∀ x ∈ l, 0 ≤ x) : ∀ i s, s < i → lastP l i < s → l.getD s 0 = 0
 | 0, s, h, _ => by omega
 | i + 1, s, h, h2 => by
  have hs : 0 ≤ l.getD s 0 := by rcases getD_mem_or (l := l) s with h | h; exact hl _ h; omega
  simp only [lastP] at h2
  split at h2
  ·omega
  ·rename_i hp
   by_cases hsi : s = i
   ·subst hsi; omega
   ·exact lastP_after l hl i s (by omega) h2
def moreF (l : List Int) (free all : Int) (s : Nat) : Int := if l.getD s 0 = 0 then 0 else l.getD s 0 * free / all
def shareF (l : List Int) (free all : Int) (s : Nat) : Int := if l.getD s 0 = 0 then 0 else 1 + l.getD s 0 * free / all
theorem more_le {l : List Int} {free all : Int} (hl : ∀ x ∈ l, 0 ≤ x) (hf : 0 ≤ free) (ha : 0 < all) : ∀ i, 0 ≤ sumI (moreF l free all) i ∧ all * sumI (moreF l free all) i ≤ free * sumF l i
 | 0 => by simp [sumI, sumF]
 | i + 1 => by
  have ih := more_le (free := free) (all := all) hl hf ha i
  have hs : 0 ≤ l.getD i 0 := by rcases getD_mem_or (l := l) i with h | h; exact hl _ h; omega
  simp only [sumF, sumI] at *
  have hm : 0 ≤ moreF l free all i ∧ all * moreF l free all i ≤ free * l.getD i 0 := by
   unfold moreF
   split
   ·rename_i h; rw [h]; simp
   ·have h0 : 0 ≤ l.getD i 0 * free := Int.mul_nonneg hs hf
    refine ⟨Int.ediv_nonneg h0 (by omega), ?_⟩
    rw [Int.mul_comm free]
    have := Int.mul_ediv_self_le (x := l.getD i 0 * free) (k := all) (by omega)
    exact this
  rw [Int.mul_add, Int.mul_add]
  omega
theorem sum_zero_tail {l : List Int} (h : ∀ x ∈ l, 0 ≤ x) {m : Nat} : ∀ n, m ≤ n → (∀ s, m ≤ s → s < n → l.getD s 0 = 0) → sumF l n = sumF l m
 | 0, hm, _ => by
  have : m = 0 := by omega
  subst this; rfl
 | n + 1, hm, hz => by
  by_cases hs : m = n + 1
  ·subst hs; rfl
  ·have := sum_zero_tail h n (by omega) (fun s h1 h2 => hz s h1 (by omega))
   have h0 := hz n (by omega) (by omega)
   simp only [sumF, sumI] at *
   omega
theorem som_zero_tail {l : List Int} {m : Nat} : ∀ n, m ≤ n → (∀ s, m ≤ s → s < n → l.getD s 0 = 0) → somN l n = somN l m
 | 0, hm, _ => by
  have : m = 0 := by omega
  subst this; rfl
 | n + 1, hm, hz => by
  by_cases hs : m = n + 1
  ·subst hs; rfl
  ·have := som_zero_tail (l := l) n (by omega) (fun s h1 h2 => hz s h1 (by omega))
   have h0 := hz n (by omega) (by omega)
   simp only [somN, sumI] at *
   unfold posI at *
   rw [if_neg (by omega)]
   omega
def Fair (l c : List Int) (log : Int) : Prop := Right c log ∧ c.length ≤ l.length ∧ (∀ x ∈ c, isI16 x) ∧ ∀ s, s < l.length → (0 < l.getD s 0 ↔ (s < c.length ∧ c.getD s 0 ≠ 0))
theorem fair_of {l out : List Int} {log free all left : Int} {best : Nat} (hl : ∀ x ∈ l, 0 ≤ x) (hab : Able l log) (hfree : free = 2 ^ log.toNat - somN l l.length) (hall : all = sumF l l.length)
  (hlen : out.length = (lastP l l.length).toNat + 1) (hout : ∀ s, s < out.length → out.getD s 0 = shareF l free all s) (hleft : left = free - sumI (moreF l free all) out.length) (hb : best < out.length) (hbp : 0 < l.getD best 0) :
  0 ≤ left ∧ left ≤ free ∧ out.getD best 0 + left ≤ 2 ^ log.toNat ∧ (0 ≤ out.getD best 0) ∧ Fair l (out.set best (out.getD best 0 + left)) log := by
 obtain ⟨a1, a2, a3, a4, a5⟩ := hab
 have hlr := lastP_range l l.length
 have hl1 : 1 ≤ l.length := by
  apply Classical.byContradiction
  intro h
  have : l.length = 0 := by omega
  rw [this] at a4
  simp [somN, sumI] at a4
 have hlp := lastP_pos l l.length a4
 have hpl := pow_log ⟨a2, a3⟩
 have htail : ∀ s, out.length ≤ s → s < l.length → l.getD s 0 = 0 := fun s h1 h2 => lastP_after l hl l.length s h2 (by omega)
 have hsf : sumF l out.length = all := by rw [hall]; exact (sum_zero_tail hl l.length (by omega) htail).symm
 have hsn : somN l out.length = somN l l.length := (som_zero_tail l.length (by omega) htail).symm
 have hge : ∀ s, 0 ≤ l.getD s 0 := fun s => by rcases getD_mem_or (l := l) s with h | h; exact hl _ h; omega
 have hallp : 0 < all := by
  have := sumI_one (f := fun s => l.getD s 0) (n := out.length) (s := best) (fun i _ => hge i) hb
  simp only [sumF] at hsf
  omega
 have hf0 : 0 ≤ free := by omega
 have hml := more_le (free := free) (all := all) hl hf0 hallp out.length
 rw [hsf] at hml
 have hmle : sumI (moreF l free all) out.length ≤ free := by
  apply Classical.byContradiction
  intro h
  have : all * (free + 1) ≤ all * sumI (moreF l free all) out.length := Int.mul_le_mul_of_nonneg_left (by omega) (by omega)
  rw [Int.mul_add, Int.mul_comm all free] at this
  omega
 have hsh : ∀ s, 0 ≤ shareF l free all s ∧ (shareF l free all s = 0 ↔ l.getD s 0 = 0) ∧ shareF l free all s = moreF l free all s + posI l s := by
  intro s
  unfold shareF moreF posI
  split
  ·rename_i h; rw [h]; simp
  ·rename_i h
   have := Int.ediv_nonneg (Int.mul_nonneg (hge s) hf0) (b := all) (by omega)
   have := hge s
   refine ⟨by omega, ⟨fun h => by omega, fun h2 => absurd h2 h⟩, ?_⟩
   rw [if_pos (by omega)]; omega
 have hsum : sumI (shareF l free all) out.length = sumI (moreF l free all) out.length + somN l out.length := by
  have : ∀ n, sumI (shareF l free all) n = sumI (moreF l free all) n + somN l n := by
   intro n
   induction n with
   | zero => simp [sumI, somN]
   | succ n ih =>
    have := (hsh n).2.2
    simp only [sumI, somN] at *
    omega
  exact this _
 have hone := sumI_one (f := shareF l free all) (n := out.length) (s := best) (fun i _ => (hsh i).1) hb
 have hob := hout best hb
 have hlenset : (out.set best (out.getD best 0 + left)).length = out.length := List.length_set
 have hget : ∀ s, s < out.length → (out.set best (out.getD best 0 + left)).getD s 0 = if s = best then shareF l free all best + left else shareF l free all s := by
  intro s hs
  rw [List.getD_eq_getElem?_getD, List.getElem?_set]
  by_cases h : best = s
  ·subst h; rw [if_pos rfl, if_pos hb, if_pos rfl, hob]; rfl
  ·rw [if_neg h, if_neg (by omega), ← List.getD_eq_getElem?_getD, hout s hs]
 have hne : ∀ s, s < out.length → 0 ≤ (out.set best (out.getD best 0 + left)).getD s 0 ∧ ((out.set best (out.getD best 0 + left)).getD s 0 = 0 ↔ l.getD s 0 = 0) := by
  intro s hs
  rw [hget s hs]
  have := hsh s
  split
  ·rename_i h; subst h
   have h2 : shareF l free all s ≠ 0 := fun h => by have := (hsh s).2.1.1 h; omega
   exact ⟨by omega, ⟨fun h => by omega, fun h => by omega⟩⟩
  ·exact ⟨this.1, this.2.1⟩
 generalize hcc : out.set best (out.getD best 0 + left) = c at *
 have hpart : ∀ x : Int, 0 ≤ x → partsN x = x := fun x h => by unfold partsN; rw [if_neg (by omega)]
 have hmemc : ∀ x ∈ c, ∃ s, s < out.length ∧ c.getD s 0 = x := by
  intro x hx
  obtain ⟨s, hs, rfl⟩ := List.mem_iff_getElem.1 hx
  exact ⟨s, by omega, by rw [List.getD_eq_getElem?_getD, List.getElem?_eq_getElem hs]; rfl⟩
 have hsc : sumP c = 2 ^ log.toNat := by
  have h1 := sumP_sumI c c.length (Nat.le_refl _)
  rw [List.take_length, hlenset] at h1
  rw [h1, sumI_congr (g := fun i => if i = best then shareF l free all best + left else shareF l free all i) (fun i hi => by rw [hpart _ (hne i hi).1, hget i hi]), sumI_upd hb, hsum]
  omega
 have hle : ∀ s, s < out.length → c.getD s 0 ≤ 2 ^ log.toNat := by
  intro s hs
  have h1 := sumP_sumI c c.length (Nat.le_refl _)
  rw [List.take_length, hlenset, hsc] at h1
  have := sumI_one (f := fun s => partsN (c.getD s 0)) (n := out.length) (s := s) (fun i hi => by show 0 ≤ partsN _; rw [hpart _ (hne i hi).1]; exact (hne i hi).1) hs
  rw [← h1] at this
  have e : partsN (c.getD s 0) = c.getD s 0 := hpart _ (hne s hs).1
  omega
 have hsb := (hsh best).1
 refine ⟨by omega, by omega, by omega, by omega, ⟨a2, a3, by omega, by omega, ?_, ?_, hsc⟩, by omega, ?_, ?_⟩
 ·rw [hlenset, hlen]
  have := (hne (lastP l l.length).toNat (by omega)).2
  simp only [Nat.add_sub_cancel]
  intro h
  have := this.1 h
  omega
 ·intro x hx
  obtain ⟨s, hs, rfl⟩ := hmemc x hx
  have := (hne s hs).1
  omega
 ·intro x hx
  obtain ⟨s, hs, rfl⟩ := hmemc x hx
  have := (hne s hs).1
  have := hle s hs
  unfold isI16; omega
 ·intro s hs
  by_cases h : s < out.length
  ·have := (hne s h).2
   have := hge s
   constructor
   ·intro h2; exact ⟨by omega, fun h3 => by omega⟩
   ·rintro ⟨_, h2⟩
    apply Classical.byContradiction
    intro h3
    exact h2 (by omega)
  ·have := htail s (by omega) hs
   constructor
   ·intro h2; omega
   ·rintro ⟨h2, _⟩; omega
end Go.Proofs.Ytlclleihoampdaa
namespace Go.Proofs.Ytlclleihoampdaa
open Go Go.Sx Go.Proofs
set_option maxRecDepth 10000
set_option maxHeartbeats 40000000
theorem blen_max {x : Int} (h0 : 2 ≤ x) (h : x ≤ 4097) : 2 ≤ blen x ∧ blen x ≤ 13 := by
 have h1 := blen_range (x := x) (n := 13) (by omega) (by omega)
 obtain ⟨k, h2, h3, h4⟩ := blen_spec (x := x) (by omega)
 refine ⟨?_, by omega⟩
 apply Classical.byContradiction
 intro hc
 have : k = 0 := by omega
 subst this
 omega
def zr : Nat → List Int
 | n + 3 => bitsN 3 2 ++ zr n
 | n => bitsN n 2
theorem zr_small {n : Nat} (h : n < 3) : zr n = bitsN n 2 := by
 have : n = 0 ∨ n = 1 ∨ n = 2 := by omega
 rcases this with rfl | rfl | rfl <;> rfl
theorem wgo_zeros (l : List Int) (left : Int) : ∀ (n k i : Nat), k < 3 → i + n < l.length → (∀ j, j < n → l.getD (i + j) 0 = 0) → l.getD (i + n) 0 ≠ 0 →
  wgo (some k) (l.drop i) left = zr (k + n) ++ wgo none (l.drop (i + n)) left
 | 0, k, i, hk, hi, _, hne => by
  simp only [Nat.add_zero] at hne hi ⊢
  rw [zr_small hk, drop_cons hi, wgo, if_neg hne, wgo, if_neg hne]
 | n + 1, k, i, hk, hi, hz, hne => by
  have h0 := hz 0 (by omega)
  rw [Nat.add_zero] at h0
  have hz' : ∀ j, j < n → l.getD (i + 1 + j) 0 = 0 := fun j hj => by have := hz (j + 1) (by omega); rw [show i + 1 + j = i + (j + 1) by omega]; exact this
  have hne' : l.getD (i + 1 + n) 0 ≠ 0 := by rw [show i + 1 + n = i + (n + 1) by omega]; exact hne
  rw [drop_cons (by omega), wgo, if_pos h0]
  have e : i + (n + 1) = i + 1 + n := by omega
  by_cases h2 : k = 2
  ·subst h2
   rw [if_pos rfl, wgo_zeros l left n 0 (i + 1) (by omega) (by omega) hz' hne', e, show 2 + (n + 1) = n + 3 by omega, zr, List.append_assoc, Nat.zero_add]
  ·rw [if_neg h2, wgo_zeros l left n (k + 1) (i + 1) (by omega) (by omega) hz' hne', e, show k + (n + 1) = k + 1 + n by omega]
theorem putV_bit (v most : Int) : ∀ b ∈ putV v most, isBit b := by
 unfold putV
 split
 ·exact bitsN_bit _ _
 ·split <;> exact bitsN_bit _ _
theorem wgo_bit : ∀ (l : List Int) (o : Option Nat) (left : Int), ∀ b ∈ wgo o l left, isBit b
 | [], o, left, b, h => by cases o <;> simp [wgo] at h
 | c :: l, none, left, b, h => by
  simp only [wgo] at h
  split at h
  ·simp at h
  ·rcases List.mem_append.1 h with h | h
   ·exact putV_bit _ _ b h
   ·exact wgo_bit l _ _ b h
 | c :: l, some k, left, b, h => by
  simp only [wgo] at h
  split at h
  ·split at h
   ·rcases List.mem_append.1 h with h | h
    ·exact bitsN_bit _ _ b h
    ·exact wgo_bit l _ _ b h
   ·exact wgo_bit l _ _ b h
  ·rcases List.mem_append.1 h with h | h
   ·exact bitsN_bit _ _ b h
   ·split at h
    ·simp at h
    ·rcases List.mem_append.1 h with h | h
     ·exact putV_bit _ _ b h
     ·exact wgo_bit l _ _ b h
theorem wbits_bit (l : List Int) (log : Int) : ∀ b ∈ wbits l log, isBit b := by
 intro b h
 rcases List.mem_append.1 h with h | h
 ·exact bitsN_bit _ _ b h
 ·exact wgo_bit l _ _ b h
end Go.Proofs.Ytlclleihoampdaa
namespace Go.Proofs.Ytlclleihoampdaa
open Go Go.Sx Go.Proofs
set_option maxRecDepth 10000
set_option maxHeartbeats 40000000
theorem table_bad (l : List Int) (log : Int) (cap : Nat) (hl : ∀ c ∈ l, isI16 c) (hlog : -9223372036854775808 ≤ log ∧ log ≤ 9223372036854775807) (hR : ¬ Right l log) :
  Con Try.prog 66 [.slice 0 .z 1 l.length cap, .int .i64 log] [.ro .i16 l] (fun v H R => R = [] ∧ v = .tup [.val (.slice none 0 0), .int .i64 70] ∧ H = [.ro .i16 l]) := by
 have hright := right_con l log cap hl hlog
 rw [show decide (Right l log) = false by simp [hR]] at hright
 refine con_gen (con_walk hmix fn66 ?_)
 intro vb vc vw vtoN vofN vaddN vsubN vmaxI vminI vcutN vgd vst vln vrep vsub vonto vsplice vstrEq vbyteV vnotB veqB hw qb qc qw qtoN qofN qaddN qsubN qmaxI qminI qcutN qgd qst qln qrep qsub qonto qsplice qstrEq qbyteV qnotB qeqB
 have hm := hmix; generalize Try.prog = P at *
 have hnb : vnotB false = true := by simp only [qnotB]; rfl
 generalize l.length = n at *
 cbv
 refine call_con (ρ := [(0, .z)]) hright ⟨by rfl, by rfl, by rfl, by cbv; exact ⟨view_refl _, trivial⟩⟩ ?_
 rintro v H R js ⟨rfl, rfl, rfl⟩
 cbv
 rw [hnb]
 cbv
end Go.Proofs.Ytlclleihoampdaa
namespace Go.Proofs.Ytlclleihoampdaa
open Go Go.Sx Go.Proofs
def orb (size : Int) (j : Nat) : Int := (j * (size / 2 + size / 8 + 3)) % size
abbrev isSize (size : Int) : Prop := size = 32 ∨ size = 64 ∨ size = 128 ∨ size = 256 ∨ size = 512 ∨ size = 1024 ∨ size = 2048 ∨ size = 4096
theorem size_inv {size : Int} (hs : isSize size) : ∃ inv : Int, (inv * (size / 2 + size / 8 + 3)) % size = 1 := by
 rcases hs with rfl | rfl | rfl | rfl | rfl | rfl | rfl | rfl
 ·exact ⟨7, by decide⟩
 ·exact ⟨3, by decide⟩
 ·exact ⟨91, by decide⟩
 ·exact ⟨11, by decide⟩
 ·exact ⟨363, by decide⟩
 ·exact ⟨43, by decide⟩
 ·exact ⟨1451, by decide⟩
 ·exact ⟨171, by decide⟩
theorem orb_inv {size inv : Int} (hp : 0 < size) (hi : (inv * (size / 2 + size / 8 + 3)) % size = 1) (j : Nat) (h : (j : Int) < size) : (orb size j * inv) % size = j := by
 unfold orb
 rw [Int.mul_emod, Int.emod_emod_of_dvd _ (Int.dvd_refl _), ← Int.mul_emod, Int.mul_assoc, Int.mul_comm (size / 2 + size / 8 + 3) inv, Int.mul_emod, hi, Int.mul_one, Int.emod_emod_of_dvd _ (Int.dvd_refl _)]
 exact Int.emod_eq_of_lt (by omega) h
theorem orb_onto {size inv : Int} (hp : 0 < size) (hi : (inv * (size / 2 + size / 8 + 3)) % size = 1) {a : Int} (h0 : 0 ≤ a) (h1 : a < size) : ∃ j : Nat, (j : Int) < size ∧ orb size j = a := by
 refine ⟨((a * inv) % size).toNat, ?_, ?_⟩
 ·have := Int.emod_lt_of_pos (a * inv) hp
  have := Int.emod_nonneg (a * inv) (by omega : size ≠ 0)
  omega
 ·unfold orb
  rw [Int.toNat_of_nonneg (Int.emod_nonneg _ (by omega)), Int.mul_emod, Int.emod_emod_of_dvd _ (Int.dvd_refl _), ← Int.mul_emod, Int.mul_assoc, Int.mul_emod, hi, Int.mul_one, Int.emod_emod_of_dvd _ (Int.dvd_refl _)]
  exact Int.emod_eq_of_lt h0 h1
theorem orb_step {size : Int} (j : Nat) : stepT size (orb size j) = orb size (j + 1) := by
 unfold stepT orb
 rw [Int.add_assoc, Int.add_assoc, Int.emod_add_emod]
 congr 1
 push_cast
 rw [Int.add_mul]
 omega
def hitN (size high : Int) : Nat → Int := sumI (fun j => if orb size j < high then 1 else 0)
theorem sumI_delta {n s : Nat} (h : s < n) : sumI (fun i => if i = s then 1 else 0) n = 1 := by
 rw [sumI_upd (f := fun _ => 0) h]
 have : ∀ n, sumI (fun _ => 0) n = 0 := by
  intro n
  induction n with
  | zero => rfl
  | succ n ih => simp only [sumI]; omega
 rw [this]; rfl
theorem hitN_all {size : Int} (hs : isSize size) : ∀ (h : Nat), (h : Int) ≤ size → hitN size h size.toNat = h := by
 obtain ⟨inv, hi⟩ := size_inv hs
 have hp : 0 < size := by omega
 intro h
 induction h with
 | zero =>
  intro _
  unfold hitN
  have : ∀ n, sumI (fun j => if orb size j < ((0 : Nat) : Int) then 1 else 0) n = 0 := by
   intro n
   induction n with
   | zero => rfl
   | succ n ih =>
    have := Int.emod_nonneg (n * (size / 2 + size / 8 + 3)) (by omega : size ≠ 0)
    simp only [sumI]
    rw [ih, if_neg (by unfold orb; omega)]; rfl
  rw [this]; rfl
 | succ h ih =>
  intro hle
  have ih := ih (by omega)
  obtain ⟨j0, hj0, hj1⟩ := orb_onto hp hi (a := h) (by omega) (by omega)
  have hsplit : ∀ n, sumI (fun j => if orb size j < ((h + 1 : Nat) : Int) then 1 else 0) n = sumI (fun j => if orb size j < (h : Int) then 1 else 0) n + sumI (fun j => if orb size j = (h : Int) then 1 else 0) n := by
   intro n
   induction n with
   | zero => rfl
   | succ n ih =>
    simp only [sumI]
    rw [ih]
    by_cases h1 : orb size n < (h : Int)
    ·rw [if_pos h1, if_pos (by omega), if_neg (by omega)]; omega
    ·by_cases h2 : orb size n = (h : Int)
     ·rw [if_neg h1, if_pos (by omega), if_pos h2]; omega
     ·rw [if_neg h1, if_neg (by omega), if_neg h2]; omega
  unfold hitN at *
  rw [hsplit, ih, sumI_congr (g := fun j => if j = j0 then 1 else 0) (fun j hj => ?_), sumI_delta (by omega)]
  ·push_cast; rfl
  ·by_cases he : j = j0
   ·subst he; rw [if_pos hj1, if_pos rfl]
   ·rw [if_neg he, if_neg (fun e => he ?_)]
    have h1 := orb_inv hp hi j (by omega)
    have h2 := orb_inv hp hi j0 hj0
    rw [e] at h1
    rw [hj1] at h2
    omega
theorem skip_orb {size high : Int} : ∀ (n m : Nat) (hm : ∃ d, d ≤ n ∧ orb size (m + d) < high), ∃ m', m ≤ m' ∧ skipT size high n (orb size m) = orb size m' ∧ orb size m' < high ∧ hitN size high m' = hitN size high m
 | 0, m, ⟨d, hd, h⟩ => by
  have : d = 0 := by omega
  subst this
  exact ⟨m, Nat.le_refl _, rfl, h, rfl⟩
 | n + 1, m, ⟨d, hd, h⟩ => by
  by_cases h0 : orb size m < high
  ·exact ⟨m, Nat.le_refl _, by simp only [skipT]; rw [if_pos h0], h0, rfl⟩
  ·have hd0 : d ≠ 0 := fun e => by subst e; exact h0 h
   obtain ⟨m', h1, h2, h3, h4⟩ := skip_orb n (m + 1) ⟨d - 1, by omega, by rw [show m + 1 + (d - 1) = m + d by omega]; exact h⟩
   refine ⟨m', by omega, by simp only [skipT]; rw [if_neg h0, orb_step]; exact h2, h3, ?_⟩
   rw [h4]
   unfold hitN
   simp only [sumI]
   rw [if_neg h0]; omega
theorem iter_orb {size : Int} : ∀ (n m : Nat), iterT size n (orb size m) = orb size (m + n)
 | 0, m => rfl
 | n + 1, m => by rw [iterT, orb_step, iter_orb n (m + 1)]; congr 1; omega
theorem pos_orb {size high : Int} (hs : isSize size) (hh : 0 < high) : ∀ q, ∃ m, posT size high q = orb size m ∧ orb size m < high ∧ hitN size high m = q
 | 0 => ⟨0, by simp [posT, orb], by simp [orb]; exact hh, rfl⟩
 | q + 1 => by
  obtain ⟨m, h1, h2, h3⟩ := pos_orb hs hh q
  have hsb := step_bound (size := size) (by omega) (posT size high q)
  obtain ⟨d, hd, hd0⟩ := hit0 hs hsb.1 hsb.2
  rw [h1, orb_step, iter_orb] at hd0
  obtain ⟨m', h4, h5, h6, h7⟩ := skip_orb (size := size) (high := high) 5000 (m + 1) ⟨d, by omega, by omega⟩
  refine ⟨m', by simp only [posT, nextT]; rw [h1, orb_step]; exact h5, h6, ?_⟩
  rw [h7]
  unfold hitN at *
  simp only [sumI]
  rw [if_pos h2, h3]; push_cast; rfl
theorem pos_inj {size : Int} {h : Nat} (hs : isSize size) (hle : (h : Int) ≤ size) {p q : Nat} (hp : p < h) (hq : q < h) (he : posT size h p = posT size h q) : p = q := by
 obtain ⟨inv, hi⟩ := size_inv hs
 obtain ⟨m, a1, a2, a3⟩ := pos_orb hs (by omega : (0 : Int) < h) p
 obtain ⟨n, b1, b2, b3⟩ := pos_orb hs (by omega : (0 : Int) < h) q
 have hall := hitN_all hs h hle
 have hlt : ∀ m k : Nat, k < h → hitN size h m = k → (m : Int) < size := by
  intro m k hk hm
  apply Classical.byContradiction
  intro hc
  have := sumI_mono (f := fun j => if orb size j < (h : Int) then 1 else 0) (m := size.toNat) (n := m) (fun i _ => by split <;> omega) (by omega)
  unfold hitN at hall hm
  omega
 have h1 := orb_inv (by omega) hi m (hlt m p hp a3)
 have h2 := orb_inv (by omega) hi n (hlt n q hq b3)
 rw [← a1, he, b1] at h1
 have : (m : Int) = n := by rw [← h1, ← h2]
 have : m = n := by omega
 subst this
 omega
end Go.Proofs.Ytlclleihoampdaa
namespace Go.Proofs.Ytlclleihoampdaa
open Go Go.Sx Go.Proofs
theorem cntT_upd {f : Nat → Int} {p : Nat} {v s : Int} : ∀ {N : Nat}, p < N → cntT (updI f p v) s N = cntT f s N - (if f p = s then 1 else 0) + (if v = s then 1 else 0) := by
 have e : ∀ (g : Nat → Int) N, cntT g s N = sumI (fun k => if g k = s then 1 else 0) N := by
  intro g N
  induction N with
  | zero => rfl
  | succ N ih => simp only [cntT, sumI, ih]
 intro N h
 rw [e, e, ← sumI_upd (f := fun k => if f k = s then 1 else 0) h]
 refine sumI_congr (fun i _ => ?_)
 rw [updI_eq]
 by_cases hi : i = p
 ·rw [if_pos hi, if_pos hi]
 ·rw [if_neg hi, if_neg hi]
theorem cntT_const {c s : Int} (h : c ≠ s) : ∀ N, cntT (fun _ => c) s N = 0
 | 0 => rfl
 | N + 1 => by simp only [cntT]; rw [cntT_const h N, if_neg h]; rfl
theorem cntT_all {c : Int} : ∀ N, cntT (fun _ => c) c N = N
 | 0 => rfl
 | N + 1 => by simp only [cntT]; rw [cntT_all N]; simp
theorem cntT_congr {f g : Nat → Int} {s : Int} : ∀ {N : Nat}, (∀ k, k < N → f k = g k) → cntT f s N = cntT g s N
 | 0, _ => rfl
 | N + 1, h => by simp only [cntT]; rw [cntT_congr (fun k hk => h k (by omega)), h N (by omega)]
theorem cntT_none {f : Nat → Int} {s : Int} : ∀ {N : Nat}, cntT f s N = 0 → ∀ k, k < N → f k ≠ s
 | 0, _, k, hk => by omega
 | N + 1, h, k, hk => by
  have h0 := cntT_range f s N
  simp only [cntT] at h
  by_cases he : f N = s
  ·rw [if_pos he] at h; omega
  ·rw [if_neg he] at h
   by_cases hkn : k = N
   ·subst hkn; exact he
   ·exact cntT_none (N := N) (by omega) k (by omega)
def negG (l : List Int) (size : Int) : Nat → Nat → Int
 | 0 => fun _ => -1
 | i + 1 => if l.getD i 0 < 0 then updI (negG l size i) (size - negN l (i + 1)).toNat i else negG l size i
theorem negG_spec {l : List Int} {size : Int} {N : Nat} (hN : size = N) : ∀ i : Nat, negN l i ≤ size → (∀ k : Nat, (k : Int) < size - negN l i → negG l size i k = -1) ∧ (∀ k, negG l size i k ≠ -1 → negS l size i k = negG l size i k) ∧
  (∀ s : Nat, cntT (negG l size i) s N = if s < i ∧ l.getD s 0 < 0 then 1 else 0) ∧ cntT (negG l size i) (-1) N = N - negN l i
 | 0, _ => by
  refine ⟨fun k _ => rfl, fun k h => absurd rfl h, fun s => ?_, ?_⟩
  ·rw [if_neg (by omega)]; exact cntT_const (by omega) N
  ·simp only [negG, negN]; rw [cntT_all]; omega
 | i + 1, hle => by
  have hd : negN l (i + 1) = negN l i + (if l.getD i 0 < 0 then 1 else 0) := rfl
  have hr := negN_range l i
  by_cases h : l.getD i 0 < 0
  ·rw [if_pos h] at hd
   obtain ⟨h1, h2, h3, h4⟩ := negG_spec (l := l) (size := size) hN i (by omega)
   have hp : ((size - negN l (i + 1)).toNat : Int) = size - negN l (i + 1) := Int.toNat_of_nonneg (by omega)
   have hpN : (size - negN l (i + 1)).toNat < N := by omega
   have hfresh : negG l size i (size - negN l (i + 1)).toNat = -1 := h1 _ (by omega)
   simp only [negG, negS]
   rw [if_pos h, if_pos h]
   refine ⟨fun k hk => ?_, fun k hk => ?_, fun s => ?_, ?_⟩
   ·rw [updI_eq, if_neg (by omega)]; exact h1 k (by omega)
   ·rw [updI_eq] at hk ⊢
    rw [updI_eq]
    split
    ·rfl
    ·rename_i hne; rw [if_neg hne] at hk; exact h2 k hk
   ·rw [cntT_upd hpN, hfresh, h3]
    by_cases hs : s = i
    ·subst hs
     rw [if_neg (by omega), if_neg (by omega), if_pos rfl, if_pos ⟨by omega, h⟩]; rfl
    ·rw [if_neg (show ¬ (-1 : Int) = s by omega), if_neg (show ¬ (i : Int) = s by omega)]
     by_cases hc : s < i ∧ l.getD s 0 < 0
     ·rw [if_pos hc, if_pos ⟨by omega, hc.2⟩]; rfl
     ·rw [if_neg hc, if_neg (fun hh => hc ⟨by omega, hh.2⟩)]; rfl
   ·rw [cntT_upd hpN, hfresh, h4, if_pos rfl, if_neg (by omega)]; omega
  ·rw [if_neg h] at hd
   obtain ⟨h1, h2, h3, h4⟩ := negG_spec (l := l) (size := size) hN i (by omega)
   simp only [negG, negS]
   rw [if_neg h, if_neg h, hd]
   refine ⟨fun k hk => h1 k (by omega), h2, fun s => ?_, by rw [h4]; omega⟩
   rw [h3]
   by_cases hc : s < i ∧ l.getD s 0 < 0
   ·rw [if_pos hc, if_pos ⟨by omega, hc.2⟩]
   ·rw [if_neg hc, if_neg]
    rintro ⟨h5, h6⟩
    by_cases hs : s = i
    ·subst hs; exact h h6
    ·exact hc ⟨by omega, h6⟩
theorem place_spec {l row : List Int} {size : Int} {N h n : Nat} (hs : isSize size) (hN : size = N) (hh : (h : Int) = size - negN l n) (hneg : negN l n ≤ size) : ∀ q : Nat, q ≤ h → (∀ j, j < q → 0 ≤ row.getD j 0) →
  (∀ k : Nat, k < h → (∀ j, j < q → posT size h j ≠ k) → placeT size h row (negG l size n) q k = -1) ∧ (∀ k, placeT size h row (negG l size n) q k ≠ -1 → placeT size h row (negS l size n) q k = placeT size h row (negG l size n) q k) ∧
  (∀ s : Nat, cntT (placeT size h row (negG l size n) q) s N = (if s < n ∧ l.getD s 0 < 0 then 1 else 0) + cntT (fun j => row.getD j 0) s q) ∧ cntT (placeT size h row (negG l size n) q) (-1) N = N - negN l n - q
 | 0, _, _ => by
  obtain ⟨h1, h2, h3, h4⟩ := negG_spec (l := l) (size := size) hN n hneg
  refine ⟨fun k hk _ => h1 k (by omega), h2, fun s => ?_, ?_⟩
  ·show cntT (negG l size n) s N = _
   rw [h3]; simp [cntT]
  ·show cntT (negG l size n) (-1) N = _
   rw [h4]; simp
 | q + 1, hq, hrow => by
  have hr := negN_range l n
  obtain ⟨h1, h2, h3, h4⟩ := place_spec (row := row) (h := h) (n := n) hs hN hh hneg q (by omega) (fun j hj => hrow j (by omega))
  have hpr := posT_range (size := size) (high := h) hs (by omega) q
  have hp : ((posT size h q).toNat : Int) = posT size h q := Int.toNat_of_nonneg hpr.1
  have hpN : (posT size h q).toNat < N := by omega
  have hfresh : placeT size h row (negG l size n) q (posT size h q).toNat = -1 := by
   refine h1 _ (by omega) (fun j hj e => ?_)
   have := pos_inj (size := size) (h := h) hs (by omega) (p := j) (q := q) (by omega) (by omega) (by omega)
   omega
  have hrq := hrow q (by omega)
  simp only [placeT]
  refine ⟨fun k hk hj => ?_, fun k hk => ?_, fun s => ?_, ?_⟩
  ·rw [updI_eq, if_neg (fun e => hj q (by omega) (by omega))]
   exact h1 k hk (fun j hj' => hj j (by omega))
  ·rw [updI_eq] at hk ⊢
   rw [updI_eq]
   split
   ·rfl
   ·rename_i hne; rw [if_neg hne] at hk; exact h2 k hk
  ·rw [cntT_upd hpN, hfresh, h3, if_neg (show ¬ (-1 : Int) = s by omega)]
   simp only [cntT]
   omega
  ·rw [cntT_upd hpN, hfresh, h4, if_pos rfl, if_neg (show ¬ row.getD q 0 = -1 by omega)]; push_cast; omega
theorem cnt_take (row : List Int) (s : Int) : ∀ i, i ≤ row.length → cntT (fun j => row.getD j 0) s i = (row.take i).count s
 | 0, _ => by simp [cntT]
 | i + 1, h => by
  simp only [cntT]
  rw [cnt_take row s i (by omega), take_snoc (by omega), List.count_append, List.count_singleton]
  by_cases he : row.getD i 0 = s
  ·rw [if_pos he, if_pos (beq_iff_eq.mpr he)]; push_cast; rfl
  ·rw [if_neg he, if_neg (fun h => he (beq_iff_eq.mp h))]; push_cast; rfl
theorem row_count (l : List Int) (s : Nat) : ∀ i, (rowT l i).count (s : Int) = if s < i then (l.getD s 0).toNat else 0
 | 0 => by simp [rowT]
 | i + 1 => by
  rw [rowT, List.count_append, row_count l s i, List.count_replicate]
  by_cases h : s = i
  ·subst h; simp
  ·have hb : (((i : Nat) : Int) == ((s : Nat) : Int)) = false := by simp; omega
   have hb' : (((s : Nat) : Int) == ((i : Nat) : Int)) = false := by simp; omega
   rw [if_neg (show ¬ ((((i : Nat) : Int) == ((s : Nat) : Int)) = true) by rw [hb]; simp)]
   by_cases h2 : s < i
   ·rw [if_pos h2, if_pos (show s < i + 1 by omega)]; rfl
   ·rw [if_neg h2, if_neg (show ¬ s < i + 1 by omega)]
theorem sym_count {l : List Int} {size : Int} {N : Nat} (hs : isSize size) (hN : size = N) (h1 : ∀ c ∈ l, -1 ≤ c) (hsum : sumP l = size) (s : Nat) (hsl : s < l.length) : cntT (symT l size) s N = partsN (l.getD s 0) := by
 have hrl := rowT_length l h1 l.length (Nat.le_refl _)
 rw [List.take_length, hsum] at hrl
 have hr := negN_range l l.length
 obtain ⟨h, hh⟩ : ∃ h : Nat, (h : Int) = size - negN l l.length := ⟨(rowT l l.length).length, hrl⟩
 have hrh : (rowT l l.length).length = h := by omega
 have hrow : ∀ j, j < h → 0 ≤ (rowT l l.length).getD j 0 := fun j _ => by
  rcases getD_mem_or (l := rowT l l.length) j with hm | hm
  ·exact (rowT_mem l _ _ hm).1
  ·omega
 obtain ⟨p1, p2, p3, p4⟩ := place_spec (l := l) (row := rowT l l.length) (n := l.length) hs hN hh (by omega) h (Nat.le_refl _) hrow
 have hnone := cntT_none (show cntT (placeT size h (rowT l l.length) (negG l size l.length) h) (-1) N = 0 by rw [p4]; omega)
 have hsy : symT l size = placeT size h (rowT l l.length) (negS l size l.length) h := by
  unfold symT
  rw [← hh]; simp
 rw [hsy, cntT_congr (fun k hk => p2 k (hnone k hk)), p3, cnt_take _ _ _ (by omega), ← hrh, List.take_length, row_count, if_pos hsl]
 have hc : -1 ≤ l.getD s 0 := h1 _ (by rw [List.getD_eq_getElem?_getD, List.getElem?_eq_getElem hsl]; exact List.getElem_mem _)
 unfold partsN
 by_cases hneg : l.getD s 0 < 0
 ·rw [if_pos ⟨hsl, hneg⟩, if_pos hneg]; omega
 ·rw [if_neg (fun hh => hneg hh.2), if_neg hneg]; omega
theorem cnt_hit {f : Nat → Int} {s : Int} : ∀ {N : Nat} {c : Int}, 0 ≤ c → c < cntT f s N → ∃ k, k < N ∧ f k = s ∧ cntT f s k = c
 | 0, c, h0, h => by simp only [cntT] at h; omega
 | N + 1, c, h0, h => by
  simp only [cntT] at h
  by_cases hc : c < cntT f s N
  ·obtain ⟨k, h1, h2, h3⟩ := cnt_hit h0 hc
   exact ⟨k, by omega, h2, h3⟩
  ·by_cases he : f N = s
   ·rw [if_pos he] at h
    exact ⟨N, by omega, he, by omega⟩
   ·rw [if_neg he] at h; omega
end Go.Proofs.Ytlclleihoampdaa
namespace Go.Proofs.Ytlclleihoampdaa
open Go Go.Sx Go.Proofs
theorem wrap_u16 {x : Int} (h0 : 0 ≤ x) (h1 : x < 65536) : IntKind.u16.wrap x = x := by
 simp [IntKind.wrap, IntKind.signed, IntKind.bits]; omega
theorem pow_le_pow2 {a b : Nat} (h : a ≤ b) : (2 : Int) ^ a ≤ 2 ^ b := by exact_mod_cast Nat.pow_le_pow_right (by omega : 0 < 2) h
theorem nb_spec {log x size : Int} (hlog : 5 ≤ log ∧ log ≤ 12) (hs : 2 ^ log.toNat = size) (h0 : 1 ≤ x) (h1 : x < 2 * size) : ∃ b : Nat, (b : Int) ≤ log ∧ size ≤ x * 2 ^ b ∧ (x + 1) * 2 ^ b ≤ 2 * size ∧ bT log x = b ∧ baseT log size x = x * 2 ^ b - size := by
 obtain ⟨n, hn⟩ : ∃ n : Nat, log = n := ⟨log.toNat, by omega⟩
 have hsn : (2 : Int) ^ n = size := by rw [← hs, hn]; simp
 have hle : (2 : Int) ^ n ≤ 2 ^ 12 := pow_le_pow2 (by omega)
 obtain ⟨k, k1, k2, k3⟩ := blen_spec (x := x) (by omega)
 have hkn : k ≤ n := by
  apply Classical.byContradiction
  intro hc
  have := pow_le_pow2 (a := n + 1) (b := k) (by omega)
  rw [Int.pow_succ] at this
  omega
 obtain ⟨b, hb⟩ : ∃ b : Nat, n = k + b := ⟨n - k, by omega⟩
 have hsz : (2 : Int) ^ k * 2 ^ b = size := by rw [← hsn, hb, Int.pow_add]
 have hb0 : (0 : Int) < 2 ^ b := Int.pow_pos (by omega)
 have a1 : size ≤ x * 2 ^ b := by rw [← hsz]; exact Int.mul_le_mul_of_nonneg_right k2 (by omega)
 have a2 : (x + 1) * 2 ^ b ≤ 2 * size := by
  have : (x + 1) * 2 ^ b ≤ 2 ^ (k + 1) * 2 ^ b := Int.mul_le_mul_of_nonneg_right (by omega) (by omega)
  rw [Int.pow_succ, Int.mul_right_comm, hsz] at this
  omega
 have a3 : x * 2 ^ b < 2 * size := by rw [Int.add_mul] at a2; omega
 have e1 : log + 1 - blen x = b := by omega
 refine ⟨b, by omega, a1, a2, ?_, ?_⟩
 ·unfold bT
  rw [e1]
  have : IntKind.u8.wrap b = b := wrap_u8 (by omega) (by omega)
  exact this
 ·have ew : IntKind.u64.wrap (b : Int) = b := wrap_u64 (by omega) (by omega)
  have es : bV .shl .i64 x b = x * 2 ^ b := by
   show IntKind.i64.wrap (x * 2 ^ (min ((b : Int).toNat) IntKind.i64.bits)) = x * 2 ^ b
   have e : min ((b : Int).toNat) IntKind.i64.bits = b := by simp [IntKind.bits]; omega
   rw [e]
   exact wrap_i64 (by omega) (by omega)
  unfold baseT
  rw [e1, ew, es, sub_i64 (by omega) (by omega)]
  exact wrap_u16 (by omega) (by omega)
theorem half_hit {c : Int} (hc : 1 ≤ c) : ∀ (n : Nat) (V : Int), c ≤ V → V < 2 ^ n → ∃ b : Nat, c ≤ V / 2 ^ b ∧ V / 2 ^ b < 2 * c
 | 0, V, h0, h1 => by simp at h1; omega
 | n + 1, V, h0, h1 => by
  by_cases h : V < 2 * c
  ·exact ⟨0, by simpa using h0, by simpa using h⟩
  ·rw [Int.pow_succ] at h1
   obtain ⟨b, b1, b2⟩ := half_hit hc n (V / 2) (by omega) (by omega)
   have e : V / 2 ^ (b + 1) = V / 2 / 2 ^ b := by rw [Int.pow_succ, Int.mul_comm, ← Int.ediv_ediv_of_nonneg (by omega)]
   exact ⟨b + 1, by rw [e]; exact b1, by rw [e]; exact b2⟩
theorem right_size {l : List Int} {log size : Int} (hR : Right l log) (hs : 2 ^ log.toNat = size) : isSize size := by
 obtain ⟨s, h1, h2⟩ := size_of ⟨hR.1, hR.2.1⟩
 rw [h1] at hs
 subst hs
 exact h2
theorem cell_in {l : List Int} {log size : Int} {N : Nat} (hR : Right l log) (hs : 2 ^ log.toNat = size) (hN : size = N) {k : Nat} (hk : k < N) : ∃ b : Nat, (b : Int) ≤ log ∧ tabB l log size N k = b ∧ 0 ≤ tabC l log size N k ∧ tabC l log size N k + 2 ^ b ≤ size ∧ 1 ≤ partsN (l.getD (symT l size k).toNat 0) := by
 have hsz := right_size hR hs
 obtain ⟨g1, g2, g3, g4, g5, g6, g7⟩ := hR
 have hr := symT_range (l := l) size (by omega) k
 obtain ⟨s, hsy⟩ : ∃ s : Nat, symT l size k = s := ⟨(symT l size k).toNat, by omega⟩
 have hcnt := sym_count hsz hN g6 (by rw [g7, hs]) s (by omega)
 have hlt : ∀ (f : Nat → Int) (s : Int) (N k : Nat), k < N → f k = s → cntT f s k + 1 ≤ cntT f s N := by
  intro f s N
  induction N with
  | zero => intro k h; omega
  | succ N ih =>
   intro k h he
   simp only [cntT]
   by_cases hk : k = N
   ·subst hk; rw [if_pos he]; omega
   ·have := ih k (by omega) he
    split <;> omega
 have h1 := hlt (symT l size) s N k hk hsy
 have h2 := cntT_range (symT l size) s k
 have h3 := partsN_le_sum g6 s
 have hx : xT l (symT l size) k = partsN (l.getD s 0) + cntT (symT l size) s k := by unfold xT; rw [hsy, Int.toNat_natCast]
 obtain ⟨b, b1, b2, b3, b4, b5⟩ := nb_spec ⟨g1, g2⟩ hs (x := xT l (symT l size) k) (by omega) (by rw [hx]; omega)
 refine ⟨b, b1, ?_, ?_, ?_, by rw [hsy, Int.toNat_natCast]; omega⟩
 ·unfold tabB; rw [if_pos hk, b4]
 ·unfold tabC; rw [if_pos hk, b5]; omega
 ·unfold tabC; rw [if_pos hk, b5]; rw [Int.add_mul] at b3; omega
theorem cell_hit {l : List Int} {log size : Int} {N : Nat} (hR : Right l log) (hs : 2 ^ log.toNat = size) (hN : size = N) {s : Nat} (hsl : s < l.length) (hne : l.getD s 0 ≠ 0) {v : Int} (h0 : 0 ≤ v) (h1 : v < size) :
  ∃ k : Nat, k < N ∧ symT l size k = s ∧ tabC l log size N k ≤ v ∧ v - tabC l log size N k < 2 ^ (tabB l log size N k).toNat := by
 have hsz := right_size hR hs
 obtain ⟨g1, g2, g3, g4, g5, g6, g7⟩ := hR
 have hcnt := sym_count hsz hN g6 (by rw [g7, hs]) s hsl
 have h3 := partsN_le_sum g6 s
 have hc1 : -1 ≤ l.getD s 0 := g6 _ (by rw [List.getD_eq_getElem?_getD, List.getElem?_eq_getElem hsl]; exact List.getElem_mem _)
 obtain ⟨c, hc⟩ : ∃ c, c = partsN (l.getD s 0) := ⟨_, rfl⟩
 have hcp : 1 ≤ c := by rw [hc]; unfold partsN; split <;> omega
 have hcs : c ≤ size := by omega
 obtain ⟨b, b1, b2⟩ := half_hit hcp 14 (v + size) (by omega) (by omega)
 have hb0 : (0 : Int) < 2 ^ b := Int.pow_pos (by omega)
 obtain ⟨x, hx⟩ : ∃ x, x = (v + size) / 2 ^ b := ⟨_, rfl⟩
 rw [← hx] at b1 b2
 have hx1 : x * 2 ^ b ≤ v + size := by rw [hx]; exact Int.ediv_mul_le _ (by omega)
 have hx2 : v + size < (x + 1) * 2 ^ b := by rw [hx]; exact Int.lt_ediv_add_one_mul_self _ hb0
 obtain ⟨b', d1, d2, d3, d4, d5⟩ := nb_spec ⟨g1, g2⟩ hs (x := x) (by omega) (by omega)
 have hbb : b' = b := by
  apply Classical.byContradiction
  intro hne
  rcases Nat.lt_or_gt_of_ne hne with hlt | hgt
  ·obtain ⟨d, rfl⟩ : ∃ d, b = b' + 1 + d := ⟨b - b' - 1, by omega⟩
   have hd : (1 : Int) ≤ 2 ^ d := pow_le_pow2 (a := 0) (by omega)
   rw [Int.pow_add, Int.pow_succ] at hx1
   have : x * (2 ^ b' * 2 * 2 ^ d) = x * 2 ^ b' * 2 * 2 ^ d := by simp only [Int.mul_assoc]
   have h5 : x * 2 ^ b' * 2 * 1 ≤ x * 2 ^ b' * 2 * 2 ^ d := Int.mul_le_mul_of_nonneg_left hd (by omega)
   omega
  ·obtain ⟨d, rfl⟩ : ∃ d, b' = b + 1 + d := ⟨b' - b - 1, by omega⟩
   have hd : (1 : Int) ≤ 2 ^ d := pow_le_pow2 (a := 0) (by omega)
   rw [Int.pow_add, Int.pow_succ] at d3
   have : (x + 1) * (2 ^ b * 2 * 2 ^ d) = (x + 1) * 2 ^ b * 2 * 2 ^ d := by simp only [Int.mul_assoc]
   have h5 : (x + 1) * 2 ^ b * 2 * 1 ≤ (x + 1) * 2 ^ b * 2 * 2 ^ d := Int.mul_le_mul_of_nonneg_left hd (by omega)
   omega
 subst hbb
 obtain ⟨k, k1, k2, k3⟩ := cnt_hit (f := symT l size) (s := s) (N := N) (c := x - c) (by omega) (by rw [hcnt]; omega)
 have hxk : xT l (symT l size) k = x := by unfold xT; rw [k2, Int.toNat_natCast, k3]; omega
 refine ⟨k, k1, k2, ?_, ?_⟩
 ·unfold tabC; rw [if_pos k1, hxk, d5]; omega
 ·unfold tabC tabB
  rw [if_pos k1, if_pos k1, hxk, d5, d4, Int.toNat_natCast]
  rw [Int.add_mul] at hx2
  omega
inductive Enc (N : Nat) (A B C : Nat → Int) : List Int → Nat → List Int → Prop
 | nil : Enc N A B C [] 0 []
 | cons {ls v bits s k} : Enc N A B C ls v bits → k < N → A k = s → C k ≤ v → v - C k < 2 ^ (B k).toNat → Enc N A B C (s :: ls) k (bits ++ bitsN (v - C k) (B k).toNat)
end Go.Proofs.Ytlclleihoampdaa
namespace Go.Proofs.Ytlclleihoampdaa
open Go Go.Sx Go.Proofs
set_option maxRecDepth 10000
set_option maxHeartbeats 40000000
end Go.Proofs.Ytlclleihoampdaa
namespace Go.Proofs.Ytlclleihoampdaa
open Go Go.Sx Go.Proofs
end Go.Proofs.Ytlclleihoampdaa
namespace Go.Proofs.Ytlclleihoampdaa
open Go Go.Sx Go.Proofs
theorem wrap_i16 {x : Int} (h0 : -32768 ≤ x) (h1 : x < 32768) : IntKind.i16.wrap x = x := by
 simp [IntKind.wrap, IntKind.bits, IntKind.signed]; omega
theorem add_i16 {x y : Int} (h0 : -32768 ≤ x + y) (h1 : x + y < 32768) : bV .add .i16 x y = x + y := wrap_i16 h0 h1
theorem add_u64 {x y : Int} (h0 : 0 ≤ x + y) (h1 : x + y < 18446744073709551616) : bV .add .u64 x y = x + y := wrap_u64 h0 h1
theorem mul_u64 {x y : Int} (h0 : 0 ≤ x * y) (h1 : x * y < 18446744073709551616) : bV .mul .u64 x y = x * y := wrap_u64 h0 h1
theorem quo_u64 {x y : Int} (h0 : 0 ≤ x) (h1 : x < 18446744073709551616) (hy : 0 ≤ y) : bV .quo .u64 x y = x / y := by
 show IntKind.u64.wrap (x.tdiv y) = x / y
 rw [Int.tdiv_eq_ediv_of_nonneg h0]
 have := Int.ediv_nonneg h0 hy
 have := Int.ediv_le_self y h0
 exact wrap_u64 (by omega) (by omega)
def rdN (b : List Int) (pos n : Nat) : Option Int := if pos + n ≤ 8 * b.length then some (bval (bitL b) pos n) else none
def valR (b : List Int) (pos : Nat) (most v : Int) : Option (Int × Nat) :=
 if v ≥ 2 ^ (blen most).toNat - 1 - most then (match rdN b (pos + (blen most - 1).toNat) 1 with
   | none => none
   | some top => some (if top = 1 then v + (2 ^ (blen most - 1).toNat - (2 ^ (blen most).toNat - 1 - most)) else v, pos + (blen most).toNat))
  else some (v, pos + (blen most - 1).toNat)
theorem valR_low {b : List Int} {pos : Nat} {most v : Int} (h : ¬ v ≥ 2 ^ (blen most).toNat - 1 - most) : valR b pos most v = some (v, pos + (blen most - 1).toNat) := by unfold valR; rw [if_neg h]
theorem valR_none {b : List Int} {pos : Nat} {most v : Int} (h : v ≥ 2 ^ (blen most).toNat - 1 - most) (h2 : rdN b (pos + (blen most - 1).toNat) 1 = none) : valR b pos most v = none := by unfold valR; rw [if_pos h, h2]
theorem valR_some {b : List Int} {pos : Nat} {most v top : Int} (h : v ≥ 2 ^ (blen most).toNat - 1 - most) (h2 : rdN b (pos + (blen most - 1).toNat) 1 = some top) :
  valR b pos most v = some (if top = 1 then v + (2 ^ (blen most - 1).toNat - (2 ^ (blen most).toNat - 1 - most)) else v, pos + (blen most).toNat) := by unfold valR; rw [if_pos h, h2]
def readS (b : List Int) (ms : Int) : Nat → Bool → Int → List Int → Nat → Int × List Int × Nat
 | 0, _, _, cs, pos => (0, cs, pos)
 | f + 1, false, left, cs, pos =>
  if left ≤ 0 then (0, cs, pos)
  else if (cs.length : Int) > ms then (11, [], 0)
  else match rdN b pos (blen (left + 1) - 1).toNat with
   | none => (10, [], 0)
   | some v => match valR b pos (left + 1) v with
    | none => (10, [], 0)
    | some (v, pos) => if v - 1 ≠ 0 then readS b ms f false (left - partsN (v - 1)) (cs ++ [v - 1]) pos
     else if ((cs ++ [v - 1]).length : Int) > ms then (11, [], 0) else readS b ms f true (left - partsN (v - 1)) (cs ++ [v - 1]) pos
 | f + 1, true, left, cs, pos => match rdN b pos 2 with
  | none => (10, [], 0)
  | some n => if ((cs ++ List.replicate n.toNat 0).length : Int) > ms then (11, [], 0) else if n = 3 then readS b ms f true left (cs ++ List.replicate n.toNat 0) (pos + 2) else readS b ms f false left (cs ++ List.replicate n.toNat 0) (pos + 2)
def readR (b : List Int) (ml ms : Int) : List Int × Int × Int × Int :=
 if ml < 5 ∨ ml > 12 ∨ ms < 0 ∨ ms > 255 then ([], 0, 0, 2)
 else match rdN b 0 4 with
  | none => ([], 0, 0, 10)
  | some x => if x + 5 > ml then ([], 0, 0, 11) else
   if (readS b ms 600 false (2 ^ (x + 5).toNat) [] 4).1 ≠ 0 then ([], 0, 0, (readS b ms 600 false (2 ^ (x + 5).toNat) [] 4).1)
   else ((readS b ms 600 false (2 ^ (x + 5).toNat) [] 4).2.1, x + 5, ((readS b ms 600 false (2 ^ (x + 5).toNat) [] 4).2.2 + 7 : Int) / 8, 0)
theorem rd_rs (b : List Int) (pos cap bl : Nat) (n acc hv ai : Int) (hbl : bl = b.length) (hby : ∀ x ∈ b, isByte x) (hl : b.length ≤ 2 ^ 50) (h : RS b pos acc hv ai) (hn : 0 ≤ n ∧ n ≤ 56) :
  Con Try.prog 100 [.ptr 0 .z 4 0, .int .i64 n] [(.one 215 [.fn 121 [.ptr 1 .z 1 0, .ptr 2 .z 1 0], .int .u64 (acc), .int .i64 (hv), .fn 122 [.ptr 2 .z 1 0, .ptr 1 .z 1 0]]), .one 3 [.int .i64 ai], .one 25 [.slice 3 .z 1 bl cap], .ro .u8 b]
   (fun v H R => R = [] ∧ ∃ acc2 hv2 ai2 x e pos2, v = .tup [.int .u64 x, .int .i64 e] ∧ RS b pos2 acc2 hv2 ai2 ∧
    ((e = 0 ∧ rdN b pos n.toNat = some x ∧ pos2 = pos + n.toNat ∧ 0 ≤ x ∧ x < 2 ^ n.toNat) ∨ (e = 10 ∧ rdN b pos n.toNat = none)) ∧
    H = [(.one 215 [.fn 121 [.ptr 1 .z 1 0, .ptr 2 .z 1 0], .int .u64 (acc2), .int .i64 (hv2), .fn 122 [.ptr 2 .z 1 0, .ptr 1 .z 1 0]]), .one 3 [.int .i64 ai2], .one 25 [.slice 3 .z 1 bl cap], .ro .u8 b]) := by
 subst hbl
 refine (rbits_rs b pos cap n acc hv ai hby hl h).mono ?_
 rintro v H R ⟨rfl, rfl, acc2, hv2, ai2, hrs, rfl⟩
 refine ⟨rfl, acc2, hv2, ai2, _, _, _, rfl, hrs, ?_, rfl⟩
 unfold rbX rbE rbP rdN
 by_cases hp : pos + n.toNat ≤ 8 * b.length
 ·have hp' : (pos : Int) + n ≤ 8 * b.length := by omega
  have hb := bval_bound (bitL b) (bitL_bit b) pos n.toNat
  have hc : 0 ≤ n ∧ n ≤ 56 ∧ (pos : Int) + n ≤ 8 * b.length := ⟨hn.1, hn.2, hp'⟩
  simp only [if_pos hc, if_pos hn, if_pos hp', if_pos hp]
  exact .inl ⟨trivial, trivial, trivial, hb⟩
 ·have hp' : ¬ (pos : Int) + n ≤ 8 * b.length := by omega
  have hc : ¬ (0 ≤ n ∧ n ≤ 56 ∧ (pos : Int) + n ≤ 8 * b.length) := fun h => hp' h.2.2
  simp only [if_neg hc, if_pos hn, if_neg hp', if_neg hp]
  exact .inr ⟨trivial, trivial⟩
end Go.Proofs.Ytlclleihoampdaa
namespace Go.Proofs.Ytlclleihoampdaa
open Go Go.Sx Go.Proofs
def isU32 (c : Int) : Prop := 0 ≤ c ∧ c < 4294967296
theorem sumF_range {l : List Int} (h : ∀ x ∈ l, isU32 x) : ∀ i, 0 ≤ sumF l i ∧ sumF l i ≤ 4294967295 * i
 | 0 => by simp [sumF, sumI]
 | i + 1 => by
  have ih := sumF_range h i
  have hs : 0 ≤ l.getD i 0 ∧ l.getD i 0 < 4294967296 := by rcases getD_mem_or (l := l) i with hh | hh; exact h _ hh; omega
  simp only [sumF, sumI] at *
  push_cast
  omega
set_option maxRecDepth 10000
set_option maxHeartbeats 40000000
theorem counts_con (l : List Int) (log : Int) (cap : Nat) (hl : ∀ c ∈ l, isU32 c) (hlog : -9223372036854775808 ≤ log ∧ log ≤ 9223372036854775807) (hlen : l.length ≤ 9223372036854775807) :
  Con Try.prog 67 [.slice 0 .z 1 l.length cap, .int .i64 log] [.ro .u32 l] (fun v H R => R = [] ∧ ((¬ Able l log ∧ v = .tup [.val (.slice none 0 0), .int .i64 2] ∧ H = [.ro .u32 l]) ∨
   (Able l log ∧ ∃ c, Fair l c log ∧ v = .tup [.slice 1 .z 1 c.length c.length, .int .i64 0] ∧ H = [.ro .u32 l, .ints 124 .i16 c]))) := by
 refine con_gen (con_drop (con_walk hmix fn67 ?_))
 intro vb vc vw vtoN vofN vaddN vsubN vmaxI vminI vcutN vgd vst vln vrep vsub vonto vsplice vstrEq vbyteV vnotB veqB hw qb qc qw qtoN qofN qaddN qsubN qmaxI qminI qcutN qgd qst qln qrep qsub qonto qsplice qstrEq qbyteV qnotB qeqB
 have hm := hmix
 generalize Try.prog = P at *
 have hA : Able l log ↔ (l.length ≤ 256 ∧ 5 ≤ log ∧ log ≤ 12 ∧ 1 ≤ somN l l.length ∧ somN l l.length ≤ 2 ^ log.toNat) := Iff.rfl
 have hl0 : ∀ x ∈ l, 0 ≤ x := fun x hx => (hl x hx).1
 have hfair := fun out free all left best => @fair_of l out log free all left best hl0
 have hge : ∀ s, 0 ≤ l.getD s 0 ∧ l.getD s 0 < 4294967296 := fun s => by rcases getD_mem_or (l := l) s with h | h; exact hl _ h; omega
 generalize Fair l = FA at *
 have hml := fun free all (hf : 0 ≤ free) (ha : 0 < all) => more_le (l := l) (free := free) (all := all) hl0 hf ha
 generalize hAb : Able l log = AB at *
 have hsn := somN_range l
 have hss : ∀ i, somN l (i + 1) = somN l i + posI l i := fun _ => rfl
 have hs0 : somN l 0 = 0 := rfl
 have hpd : ∀ i, posI l i = if l.getD i 0 > 0 then 1 else 0 := fun _ => rfl
 have hfs : ∀ i, sumF l (i + 1) = sumF l i + l.getD i 0 := fun _ => rfl
 have hf0 : sumF l 0 = 0 := rfl
 have hfr := sumF_range hl
 have hlr := lastP_range l
 have hls : ∀ i : Nat, lastP l (i + 1) = if l.getD i 0 > 0 then (i : Int) else lastP l i := fun _ => rfl
 have hl00 : lastP l 0 = 0 := rfl
 have hlpos := lastP_pos l
 have hone : ∀ s n, s < n → l.getD s 0 ≤ sumF l n := fun s n h => sumI_one (f := fun s => l.getD s 0) (fun i _ => (hge i).1) h
 have hfm : ∀ q m, q ≤ m → sumF l q ≤ sumF l m := fun q m h => sumI_mono (fun i _ => (hge i).1) h
 have hmd : ∀ free all s, moreF l free all s = if l.getD s 0 = 0 then 0 else l.getD s 0 * free / all := fun _ _ _ => rfl
 have hsd : ∀ free all s, shareF l free all s = if l.getD s 0 = 0 then 0 else 1 + l.getD s 0 * free / all := fun _ _ _ => rfl
 generalize somN l = SN at *
 generalize posI l = PI at *
 generalize sumF l = SF at *
 generalize lastP l = LP at *
 generalize moreF l = MF at *
 generalize shareF l = SH at *
 generalize hn : l.length = n at *
 have hto : ∀ i : Nat, vtoN (i : Int) = i := fun i => by simp only [qtoN, Int.toNat_natCast]
 have hadd0 : ∀ i, vaddN 0 i = i := fun i => by simp only [qaddN, Nat.zero_add]
 have hvln : vln l = n := by simp only [qln, hn]
 have hvgd : ∀ i, vgd l i = l.getD i 0 := fun i => by simp only [qgd]
 cbv
 refine loop_fam (α := Int × Int × Int × Int) ([9, 10] ++ [20, 21, 22, 23, 24, 25, 26, 27, 28, 29, 30, 31, 32, 33]) [] (fun (k, m, a, la) => [(19, .int .i64 k), (6, .int .i64 m), (7, .int .u64 a), (8, .int .i64 la)]) (fun _ => [])
  (fun (k, m, a, la) => ∃ i : Nat, k = i ∧ i ≤ n ∧ m = SN i ∧ la = LP i ∧ (i ≤ 256 → a = SF i)) (fun (k, _) => n - k.toNat) hw hm ?_ ?_
 ·refine Cv.genAt [19, 6, 7, 8] [] (Cv.fold ([9, 10] ++ [20, 21, 22, 23, 24, 25, 26, 27, 28, 29, 30, 31, 32, 33]) 1 [] (by exact Nat.le_refl _) (by exact Nat.le_of_ble_eq_true rfl) (by rfl) (by cbv) ?_)
  intro js
  refine ⟨(_, _, _, _), ?_, js, rfl⟩
  exact ⟨0, rfl, by omega, hs0.symm, hl00.symm, fun _ => hf0.symm⟩
 ·rintro ⟨k, m, a, la⟩ js ⟨i, hk, hi, hm1, hla, ha⟩
  have hsi := hsn i
  cbv
  split
  ·rename_i hlt
   have hlt : i < n := by rw [qc, lss_true] at hlt; simp only [qofN] at hlt; simp only [nc] at *; omega
   have hti : vtoN k = i := by rw [hk]; exact hto i
   have hinR : 0 ≤ k ∧ k < (n : Int) := by simp only [nc] at *; omega
   obtain ⟨k1, hk1⟩ : ∃ k1 : Int, k1 = ((i + 1 : Nat) : Int) := ⟨_, rfl⟩
   have ek : vb .add .i64 k 1 = k1 := by simp only [nc] at *; rw [qb, add_i64 (by omega) (by omega)]; omega
   have em : vb .add .i64 m 1 = m + 1 := by simp only [nc] at *; rw [qb, add_i64 (by omega) (by omega)]
   have hmu : n - k1.toNat < n - k.toNat := by simp only [nc] at *; omega
   have hsi1 := hss i
   have hls1 := hls i
   have hfs1 := hfs i
   have hgi := hge i
   have hfri := hfr i
   rw [hpd] at hsi1
   cbv
   rw [hti, hadd0, hvgd]
   refine ⟨⟨hinR⟩, ⟨by omega⟩, ⟨by omega⟩, ?_⟩
   generalize hci : l.getD i 0 = ci at *
   generalize hz : vc .gtr ci 0 = z
   cases z
   ·rw [qc, gtr_false] at hz
    rw [if_neg (by omega)] at hsi1 hls1
    cbv
    rw [ek]
    refine Cv.fold ([9, 10] ++ [20, 21, 22, 23, 24, 25, 26, 27, 28, 29, 30, 31, 32, 33]) 1 [] (by exact Nat.le_refl _) (by exact Nat.le_of_ble_eq_true rfl) (by rfl) (by cbv) ?_
    intro js
    refine ⟨(_, _, _, _), ?_, js, rfl⟩
    exact ⟨⟨i + 1, hk1, hlt, by omega, by rw [hls1]; exact hla, fun h => by have := ha (by omega); omega⟩, hmu⟩
   ·rw [qc, gtr_true] at hz
    rw [if_pos (by omega)] at hsi1 hls1
    have ew : vw .u64 ci = ci := by rw [qw]; exact wrap_u64 (by omega) (by omega)
    cbv
    rw [ek, em, ew]
    refine Cv.fold ([9, 10] ++ [20, 21, 22, 23, 24, 25, 26, 27, 28, 29, 30, 31, 32, 33]) 1 [] (by exact Nat.le_refl _) (by exact Nat.le_of_ble_eq_true rfl) (by rfl) (by cbv) ?_
    intro js
    refine ⟨(_, _, _, _), ?_, js, rfl⟩
    refine ⟨⟨i + 1, hk1, hlt, by omega, by rw [hls1]; exact hk, fun h => ?_⟩, hmu⟩
    have := ha (by omega)
    simp only [nc] at *
    rw [qb, add_u64 (by omega) (by omega)]; omega
  ·rename_i hge1
   have hin : i = n := by rw [qc, lss_false] at hge1; simp only [qofN] at hge1; simp only [nc] at *; omega
   subst hin
   have hbad : ¬ AB → SV.tup [SV.val (Value.slice none 0 0), .lit .i64 2] = SV.tup [SV.val (Value.slice none 0 0), .lit .i64 2] := fun _ => rfl
   cbv
   generalize h1 : vc .gtr (vofN i) 256 = z1
   cases z1
   rotate_left
   ·rw [qc, qofN, gtr_true] at h1
    cbv
    exact .inl ⟨fun h => by have := (hA.1 h).1; simp only [nc] at *; omega, trivial⟩
   rw [qc, qofN, gtr_false] at h1
   cbv
   generalize h2 : vc .lss log 5 = z2
   cases z2
   rotate_left
   ·rw [qc, lss_true] at h2
    cbv
    exact .inl ⟨fun h => by have := (hA.1 h).2.1; omega, trivial⟩
   rw [qc, lss_false] at h2
   cbv
   generalize h3 : vc .gtr log 12 = z3
   cases z3
   rotate_left
   ·rw [qc, gtr_true] at h3
    cbv
    exact .inl ⟨fun h => by have := (hA.1 h).2.2.1; omega, trivial⟩
   rw [qc, gtr_false] at h3
   cbv
   generalize h4 : vc .eql m 0 = z4
   cases z4
   rotate_left
   ·rw [qc, eql_true] at h4
    cbv
    exact .inl ⟨fun h => by have := (hA.1 h).2.2.2.1; omega, trivial⟩
   rw [qc, eql_false] at h4
   have e2 : vw .u64 log = log := by rw [qw]; exact wrap_u64 (by omega) (by omega)
   have e3 : vb .shl .i64 1 log = 2 ^ log.toNat := by rw [qb, one_shl62 (by omega) (by omega)]
   have hpl := pow_log (log := log) (by omega)
   generalize hpw : (2 : Int) ^ log.toNat = pw at *
   cbv
   rw [e2, e3]
   refine ⟨⟨by omega⟩, ?_⟩
   generalize h5 : vc .gtr m pw = z5
   cases z5
   rotate_left
   ·rw [qc, gtr_true] at h5
    cbv
    exact .inl ⟨fun h => by have := (hA.1 h).2.2.2.2; omega, trivial⟩
   rw [qc, gtr_false] at h5
   have hAB : AB := hA.2 ⟨by simp only [nc] at *; omega, by omega, by omega, by omega, by omega⟩
   have ha := ha (by simp only [nc] at *; omega)
   have hlri := hlr i
   have hlp := hlpos i (by omega)
   obtain ⟨Ln, hLn⟩ : ∃ Ln : Nat, la + 1 = Ln := ⟨(la + 1).toNat, by omega⟩
   have e4 : vb .add .i64 la 1 = (Ln : Int) := by simp only [nc] at *; rw [qb, add_i64 (by omega) (by omega)]; omega
   have e5 : vtoN (Ln : Int) = Ln := hto Ln
   obtain ⟨free, hfree⟩ : ∃ free : Int, free = pw - m := ⟨_, rfl⟩
   have e6 : vb .sub .i64 pw m = free := by rw [qb, sub_i64 (by omega) (by omega)]; omega
   have e7 : vw .u64 free = free := by rw [qw]; exact wrap_u64 (by omega) (by omega)
   have e8 : vrep Ln 0 = List.replicate Ln 0 := by simp only [qrep]
   have hLni : Ln ≤ i := by simp only [nc] at *; omega
   have hL1 : 1 ≤ Ln := by simp only [nc] at *; omega
   have hlaN : la.toNat + 1 = Ln := by simp only [nc] at *; omega
   have hallp : 0 < a := by
    have := hone (LP i).toNat i (by simp only [nc] at *; omega)
    omega
   generalize hlz : ((Ln : Nat) : Int) = lz at *
   cbv
   rw [e4, e5, e2, e3, e6, e7, e8]
   obtain ⟨rz, hrz⟩ : ∃ rz : List Int, rz = List.replicate Ln (0 : Int) := ⟨_, rfl⟩
   rw [← hrz]
   simp only [nc] at *
   refine ⟨⟨by omega⟩, ⟨by omega⟩, ⟨by omega⟩, ⟨by omega⟩, ⟨by omega⟩, ?_⟩
   have hf0 : 0 ≤ free := by omega
   refine loop_fam (α := Int × Int × Int × List Int) ([15, 16] ++ [70, 71, 72, 73, 74, 75, 76, 77, 78, 79, 80, 81, 82, 83, 84, 85, 86, 87, 88, 89, 90, 91, 92, 93, 94, 95, 96, 97, 98, 99, 100, 101, 102, 103, 104, 105, 106]) []
    (fun (k, le, be, out) => [(69, .int .i64 k), (12, .int .i64 le), (14, .int .i64 be)])
    (fun (k, le, be, out) => [(1, .ints 124 .i16 out)])
    (fun (k, le, be, out) => ∃ q b : Nat, k = q ∧ q ≤ Ln ∧ be = b ∧ b < Ln ∧ 0 < l.getD b 0 ∧ le = free - sumI (MF free a) q ∧ out.length = Ln ∧ ∀ s, out.getD s 0 = if s < q then SH free a s else 0)
    (fun (k, le, be, out) => Ln - k.toNat) hw hm ?_ ?_
   ·refine Cv.genAt [69] [] (Cv.fold ([15, 16] ++ [70, 71, 72, 73, 74, 75, 76, 77, 78, 79, 80, 81, 82, 83, 84, 85, 86, 87, 88, 89, 90, 91, 92, 93, 94, 95, 96, 97, 98, 99, 100, 101, 102, 103, 104, 105, 106]) 2 [] (by exact Nat.le_refl _) (by exact Nat.le_of_ble_eq_true rfl) (by rfl) (by cbv) ?_)
    intro js
    refine ⟨(_, _, _, _), ?_, js, rfl⟩
    refine ⟨0, la.toNat, rfl, by omega, by omega, by omega, by rw [hla]; exact hlp, by simp [sumI], by rw [hrz]; simp, fun s => ?_⟩
    rw [hrz, if_neg (by omega), List.getD_eq_getElem?_getD, List.getElem?_replicate]
    split <;> rfl
   ·rintro ⟨k2, le, be, out⟩ js ⟨q, b, hk2, hq, hbe, hbL, hbp, hle, hol, hog⟩
    have hvo : vln out = Ln := by rw [qln]; exact hol
    have htb : vtoN be = b := by rw [hbe]; exact hto b
    have hmq := (hml free a hf0 hallp q)
    have hsq : sumI (MF free a) (q + 1) = sumI (MF free a) q + MF free a q := rfl
    have hSle : sumI (MF free a) q ≤ free := by
     have h1 := hfm q i (by omega)
     apply Classical.byContradiction
     intro h
     have h2 : a * (free + 1) ≤ a * sumI (MF free a) q := Int.mul_le_mul_of_nonneg_left (by omega) (by omega)
     have h3 : free * SF q ≤ free * a := Int.mul_le_mul_of_nonneg_left (by omega) hf0
     rw [Int.mul_add, Int.mul_comm a free] at h2
     omega
    cbv
    split
    rotate_left
    ·rename_i hlt2
     have hqe : q = Ln := by rw [qc, lss_false] at hlt2; simp only [qofN] at hlt2; simp only [nc] at *; omega
     subst hqe
     obtain ⟨f1, f2, f3, f4, f5⟩ := hfair out free a le b hAB (by omega) ha (by omega) (fun s hs => by rw [hog, if_pos (by omega)]) (by rw [hol]; exact hle) (by omega) hbp
     have hinb : 0 ≤ be ∧ be < (q : Int) := by simp only [nc] at *; omega
     have hgo : vgd out b = out.getD b 0 := by simp only [qgd]
     generalize hob : out.getD b 0 = ob at *
     have ew : vw .i16 le = le := by rw [qw]; exact wrap_i16 (by omega) (by omega)
     have ea : vb .add .i16 ob le = ob + le := by rw [qb, add_i16 (by omega) (by omega)]
     obtain ⟨out2, hout2⟩ : ∃ out2 : List Int, out2 = out.set b (ob + le) := ⟨_, rfl⟩
     have est : vst out b (ob + le) = out2 := by rw [qst, hout2]
     have hol2 : out2.length = q := by rw [hout2, List.length_set]; exact hol
     rw [← hout2] at f5
     generalize hoe : ob + le = oe at *
     clear hfair
     cbv
     rw [htb, hgo, ew, ea, est]
     refine ⟨⟨hinb⟩, ⟨by omega⟩, ⟨hinb⟩, ⟨by omega⟩, .inr ⟨hAB, out2, f5, ?_, ?_⟩⟩
     ·rw [hol2]; rfl
     ·rfl
    ·rename_i hlt2
     have hqe : q < Ln := by rw [qc, lss_true] at hlt2; simp only [qofN] at hlt2; simp only [nc] at *; omega
     have htq : vtoN k2 = q := by rw [hk2]; exact hto q
     have hin1 : 0 ≤ k2 ∧ k2 < (i : Int) := by simp only [nc] at *; omega
     have hin2 : 0 ≤ k2 ∧ k2 < (Ln : Int) := by simp only [nc] at *; omega
     have hin3 : 0 ≤ be ∧ be < (i : Int) := by simp only [nc] at *; omega
     obtain ⟨k3, hk3⟩ : ∃ k3 : Int, k3 = ((q + 1 : Nat) : Int) := ⟨_, rfl⟩
     have ek : vb .add .i64 k2 1 = k3 := by simp only [nc] at *; rw [qb, add_i64 (by omega) (by omega)]; omega
     have hmu : Ln - k3.toNat < Ln - k2.toNat := by simp only [nc] at *; omega
     have hgq := hge q
     have hone1 := hone q i (by simp only [nc] at *; omega)
     have hmdq := hmd free a q
     have hsdq := hsd free a q
     cbv
     rw [htq, hadd0, hvgd]
     refine ⟨⟨hin1⟩, ⟨by omega⟩, ⟨by omega⟩, ?_⟩
     generalize hz : vc .eql (l.getD q 0) 0 = z
     cases z
     rotate_left
     ·rw [qc, eql_true] at hz
      rw [if_pos hz] at hmdq hsdq
      cbv
      rw [ek]
      refine Cv.fold ([15, 16] ++ [70, 71, 72, 73, 74, 75, 76, 77, 78, 79, 80, 81, 82, 83, 84, 85, 86, 87, 88, 89, 90, 91, 92, 93, 94, 95, 96, 97, 98, 99, 100, 101, 102, 103, 104, 105, 106]) 2 [] (by exact Nat.le_refl _) (by exact Nat.le_of_ble_eq_true rfl) (by rfl) (by cbv) ?_
      intro js
      refine ⟨(_, _, _, _), ?_, js, rfl⟩
      refine ⟨⟨q + 1, b, hk3, hqe, hbe, hbL, hbp, by rw [hsq, hmdq]; omega, hol, fun s => ?_⟩, hmu⟩
      rw [hog]
      by_cases h : s < q
      ·rw [if_pos h, if_pos (by omega)]
      ·by_cases h2 : s = q
       ·subst h2; rw [if_neg h, if_pos (by omega), hsdq]
       ·rw [if_neg h, if_neg (by omega)]
     ·rw [qc, eql_false] at hz
      rw [if_neg hz] at hmdq hsdq
      have hbl := hge b
      have hp0 : 0 ≤ l.getD q 0 * free := Int.mul_nonneg hgq.1 hf0
      have hp1 : l.getD q 0 * free ≤ 4294967296 * 4096 := Int.mul_le_mul (by omega) (by omega) hf0 (by omega)
      have hp2 : l.getD q 0 * free / a ≤ free := by
       have h1 : l.getD q 0 * free ≤ a * free := Int.mul_le_mul_of_nonneg_right (by omega) hf0
       have h2 := Int.ediv_le_ediv hallp h1
       rw [Int.mul_ediv_cancel_left _ (by omega)] at h2
       exact h2
      have hp3 := Int.ediv_nonneg hp0 (b := a) (by omega)
      have ew : vw .u64 (l.getD q 0) = l.getD q 0 := by rw [qw]; exact wrap_u64 (by omega) (by omega)
      have em : vb .mul .u64 (l.getD q 0) free = l.getD q 0 * free := by rw [qb, mul_u64 (by omega) (by omega)]
      have eq1 : vb .quo .u64 (l.getD q 0 * free) a = l.getD q 0 * free / a := by rw [qb, quo_u64 (by omega) (by omega) (by omega)]
      obtain ⟨mo, hmo⟩ : ∃ mo : Int, mo = l.getD q 0 * free / a := ⟨_, rfl⟩
      rw [← hmo] at hp2 hp3 eq1 hmdq hsdq
      have ew2 : vw .i64 mo = mo := by rw [qw]; exact wrap_i64 (by omega) (by omega)
      have ea : vb .add .i64 1 mo = 1 + mo := by rw [qb, add_i64 (by omega) (by omega)]
      have ew3 : vw .i16 (1 + mo) = 1 + mo := by rw [qw]; exact wrap_i16 (by omega) (by omega)
      have es : vb .sub .i64 le mo = le - mo := by rw [qb, sub_i64 (by omega) (by omega)]
      obtain ⟨out2, hout2⟩ : ∃ out2 : List Int, out2 = out.set q (1 + mo) := ⟨_, rfl⟩
      have est : vst out q (1 + mo) = out2 := by rw [qst, hout2]
      have hol2 : out2.length = Ln := by rw [hout2, List.length_set]; exact hol
      have hog2 : ∀ s, out2.getD s 0 = if s < q + 1 then SH free a s else 0 := by
       intro s
       rw [hout2, List.getD_eq_getElem?_getD, List.getElem?_set, hol]
       by_cases h : q = s
       ·subst h; rw [if_pos rfl, if_pos hqe, if_pos (by omega), hsdq]; rfl
       ·rw [if_neg h, ← List.getD_eq_getElem?_getD, hog]
        by_cases h2 : s < q
        ·rw [if_pos h2, if_pos (by omega)]
        ·rw [if_neg h2, if_neg (by omega)]
      have hlem : le - mo = free - sumI (MF free a) (q + 1) := by rw [hsq, hmdq, hle]; omega
      generalize hlq : l.getD q 0 = lq at *
      generalize hlb : l.getD b 0 = lb at *
      generalize hom : 1 + mo = om at *
      generalize hlm : le - mo = lm at *
      cbv
      rw [htq, htb, hadd0, hadd0, hvgd, hvgd, hlq, hlb, ew, em, eq1, ew2, ea, ew3, es, est]
      refine ⟨⟨hin1⟩, ⟨by omega⟩, ⟨by omega⟩, ⟨by omega⟩, ⟨hin2⟩, ⟨by omega⟩, ⟨hin1⟩, ⟨by omega⟩, ⟨by omega⟩, ⟨hin3⟩, ⟨by omega⟩, ⟨by omega⟩, ?_⟩
      generalize hz2 : vc .gtr lq lb = z2
      cases z2
      ·cbv
       rw [ek]
       refine Cv.fold ([15, 16] ++ [70, 71, 72, 73, 74, 75, 76, 77, 78, 79, 80, 81, 82, 83, 84, 85, 86, 87, 88, 89, 90, 91, 92, 93, 94, 95, 96, 97, 98, 99, 100, 101, 102, 103, 104, 105, 106]) 2 [] (by exact Nat.le_refl _) (by exact Nat.le_of_ble_eq_true rfl) (by rfl) (by cbv) ?_
       intro js
       refine ⟨(_, _, _, _), ?_, js, rfl⟩
       exact ⟨⟨q + 1, b, hk3, hqe, hbe, hbL, by omega, hlem, hol2, hog2⟩, hmu⟩
      ·cbv
       rw [ek]
       refine Cv.fold ([15, 16] ++ [70, 71, 72, 73, 74, 75, 76, 77, 78, 79, 80, 81, 82, 83, 84, 85, 86, 87, 88, 89, 90, 91, 92, 93, 94, 95, 96, 97, 98, 99, 100, 101, 102, 103, 104, 105, 106]) 2 [] (by exact Nat.le_refl _) (by exact Nat.le_of_ble_eq_true rfl) (by rfl) (by cbv) ?_
       intro js
       refine ⟨(_, _, _, _), ?_, js, rfl⟩
       exact ⟨⟨q + 1, q, hk3, hqe, hk2, hqe, by omega, hlem, hol2, hog2⟩, hmu⟩
end Go.Proofs.Ytlclleihoampdaa
