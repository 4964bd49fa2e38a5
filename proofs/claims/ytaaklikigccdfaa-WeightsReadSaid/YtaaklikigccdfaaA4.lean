import Derived.Test.YtaaklikigccdfaaA3
import Derived.Test.YtaaklikigccdfaaA2
namespace Go.Proofs.Ytaaklikigccdfaa
open Go Go.Sx Go.Proofs
/-! How many bits a greater number has. -/
theorem blen_64k {x : Int} (h : 65536 ≤ x) : blen x = 16 + blen (x / 65536) := by
  have e : x / 65536 = x / 256 / 256 := by omega
  rw [e, blen_256 (x := x) (by omega), blen_256 (x := x / 256) (by omega)]
  omega
set_option maxRecDepth 100000 in
theorem len64_big (x : Int) (hx : 65536 ≤ x ∧ x < 16777216) : Con Try.prog 74 [.int .u64 x] [] (fun v H R => v = .int .i64 (blen x) ∧ H = [] ∧ R = []) := by
  refine con_gen (con_walk hmix fn74 ?_)
  intro vb vc vw vtoN vofN vaddN vsubN vmaxI vminI vcutN vgd vst vln vrep vsub vonto vsplice vstrEq vbyteV vnotB veqB hw qb qc qw qtoN qofN qaddN qsubN qmaxI qminI qcutN qgd qst qln qrep qsub qonto qsplice qstrEq qbyteV qnotB qeqB
  have hm := hmix; generalize Try.prog = P at *
  have hl : lenTab.length = 256 := by rfl
  have key : ∀ y : Int, 0 ≤ y → y < 256 → vw .i64 (vbyteV (vgd lenTab (vtoN y))) = blen y := by
    intro y h0 h1
    obtain ⟨n, rfl⟩ : ∃ n : Nat, y = n := ⟨y.toNat, by omega⟩
    rw [qw, qbyteV, qgd, qtoN]
    exact lenTab_blen ⟨n, by omega⟩
  have hb := @blen_64k x hx.1
  have hbr := @blen_8 (x / 65536) (by omega) (by omega)
  have e1 : x74 = (.seq (.ops [⟨(some 2), .mv (.k (.lit .i64 0)), none, []⟩])
    (.seq (.seq (.ops [⟨(some 3), .mv (.t 0), none, []⟩,
      ⟨(some 4), .cmp .geq (.t 3) (.k (.lit .u64 4294967296)), none, []⟩])
    (.cond (.t 4) (.seq (.ops [⟨(some 5), .mv (.t 0), none, []⟩,
      ⟨(some 6), .bin .shr .u64 (.t 5) (.k (.lit .u64 32)), none, []⟩,
      ⟨(some 0), .mv (.t 6), none, []⟩])
    (.ops [⟨(some 2), .mv (.k (.lit .i64 32)), none, []⟩])) (.skip)))
    (.seq (.seq (.ops [⟨(some 7), .mv (.t 0), none, []⟩,
      ⟨(some 8), .cmp .geq (.t 7) (.k (.lit .u64 65536)), none, []⟩])
    (.cond (.t 8) (.seq (.ops [⟨(some 9), .mv (.t 0), none, []⟩,
      ⟨(some 10), .bin .shr .u64 (.t 9) (.k (.lit .u64 16)), none, []⟩,
      ⟨(some 0), .mv (.t 10), none, []⟩])
    (.ops [⟨(some 11), .mv (.t 2), none, []⟩,
      ⟨(some 12), .bin .add .i64 (.t 11) (.k (.lit .i64 16)), none, []⟩,
      ⟨(some 2), .mv (.t 12), none, []⟩])) (.skip)))
    (.seq (.seq (.ops [⟨(some 13), .mv (.t 0), none, []⟩,
      ⟨(some 14), .cmp .geq (.t 13) (.k (.lit .u64 256)), none, []⟩])
    (.cond (.t 14) (.seq (.ops [⟨(some 15), .mv (.t 0), none, []⟩,
      ⟨(some 16), .bin .shr .u64 (.t 15) (.k (.lit .u64 8)), none, []⟩,
      ⟨(some 0), .mv (.t 16), none, []⟩])
    (.ops [⟨(some 17), .mv (.t 2), none, []⟩,
      ⟨(some 18), .bin .add .i64 (.t 17) (.k (.lit .i64 8)), none, []⟩,
      ⟨(some 2), .mv (.t 18), none, []⟩])) (.skip)))
    (.seq (.ops [⟨(some 19), .mv (.t 2), none, []⟩,
      ⟨(some 20), .mv (.t 0), none, []⟩,
      ⟨(some 21), .conv .u8 (.t 20), none, []⟩,
      ⟨(some 22), .idxS (.k (.str lenTab)) (.t 21), none, []⟩,
      ⟨(some 23), .conv .i64 (.t 22), none, []⟩,
      ⟨(some 24), .bin .add .i64 (.t 19) (.t 23), none, []⟩,
      ⟨(some 2), .mv (.t 24), none, []⟩])
    (.ret)))))) := rfl
  rw [e1]
  have hll : vln lenTab = 256 := by rw [qln]; exact hl
  generalize lenTab = T at *
  have d1 : vc .geq x 4294967296 = false := by rw [qc, geq_false]; omega
  have d2 : vc .geq x 65536 = true := by rw [qc, geq_true]; omega
  have d3 : vc .geq (x / 65536) 256 = false := by rw [qc, geq_false]; omega
  have s1 : vb .shr .u64 x 16 = x / 65536 := by rw [qb]; show x.fdiv (2 ^ 16) = _; rw [Int.fdiv_eq_ediv_of_nonneg _ (by omega)]; rfl
  have w1 : vw .u8 (x / 65536) = x / 65536 := by rw [qw]; exact wrap_u8 (by omega) (by omega)
  have hk := key (x / 65536) (by omega) (by omega)
  generalize hbl : blen x = bl at *
  generalize hbl2 : blen (x / 65536) = bl2 at *
  generalize hx6 : x / 65536 = x6 at *
  cbv
  rw [d1]
  cbv
  rw [d2]
  cbv
  rw [s1, d3]
  cbv
  rw [w1, hk]
  refine ⟨⟨?_⟩, ?_, trivial⟩
  · rw [hll]; omega
  · congr 1
    rw [qb, add_i64 (by omega) (by omega)]; omega
theorem len_con2 (x : Int) (hx : 0 ≤ x ∧ x < 16777216) : Con Try.prog 45 [.int .u64 x] [] (fun v H R => v = .int .i64 (blen x) ∧ H = [] ∧ R = []) := by
  by_cases h : x < 65536
  · exact len_con x ⟨hx.1, h⟩
  have hc := len64_big x ⟨by omega, hx.2⟩
  refine con_gen (con_walk hmix fn45 ?_)
  intro vb vc vw vtoN vofN vaddN vsubN vmaxI vminI vcutN vgd vst vln vrep vsub vonto vsplice vstrEq vbyteV vnotB veqB hw qb qc qw qtoN qofN qaddN qsubN qmaxI qminI qcutN qgd qst qln qrep qsub qonto qsplice qstrEq qbyteV qnotB qeqB
  have hm := hmix; generalize Try.prog = P at *
  generalize blen x = bl at *
  cbv
  refine call_con (ρ := []) hc ⟨by rfl, by rfl, by rfl, by cbv⟩ ?_
  rintro v H R js ⟨rfl, rfl, rfl⟩
  cbv
/-! The last weight. -/
def smA (t : List Int) : Int := sm t t.length
/-- The weights l are those told, and the last one; they make a code. -/
def OkE (t l : List Int) : Prop := t.length ≤ 255 ∧ (∀ i, i < t.length → t.getD i 0 ≤ 11) ∧ 0 < smA t ∧ (∃ k : Nat, 2 ^ (blen (smA t)).toNat - smA t = 2 ^ k ∧ l = t ++ [(k : Int) + 1]) ∧ ∃ M, Wt l M
theorem OkE.uniq {t l l' : List Int} (h : OkE t l) (h' : OkE t l') : l = l' := by
  obtain ⟨_, _, _, ⟨k, h1, h2⟩, _⟩ := h
  obtain ⟨_, _, _, ⟨k', h3, h4⟩, _⟩ := h'
  have : k = k' := pow_inj (h1.symm.trans h3)
  rw [h2, h4, this]
theorem blen_over {x : Int} (h : 0 < x) : x < 2 ^ (blen x).toNat ∧ 2 ^ (blen x).toNat ≤ 2 * x := by
  obtain ⟨k, h1, h2, h3⟩ := blen_spec h
  have e : (blen x).toNat = k + 1 := by omega
  rw [e]
  refine ⟨h3, ?_⟩
  rw [Int.pow_succ]; omega
end Go.Proofs.Ytaaklikigccdfaa
namespace Go.Proofs.Ytaaklikigccdfaa
open Go Go.Sx Go.Proofs
/-! weights.ends. -/
set_option maxRecDepth 10000
set_option maxHeartbeats 40000000
theorem sm_ext {l l' : List Int} {n : Nat} (h : ∀ i, i < n → l.getD i 0 = l'.getD i 0) : sm l n = sm l' n := by
  induction n with
  | zero => rfl
  | succ n ih => simp only [sm]; rw [ih (fun i hi => h i (by omega)), h n (by omega)]
theorem getD_take {l : List Int} {n i : Nat} (h : i < n) : (l.take n).getD i 0 = l.getD i 0 := by
  rw [List.getD_eq_getElem?_getD, List.getD_eq_getElem?_getD, List.getElem?_take, if_pos h]
theorem ends_con (l0 : List Int) (n cap cc : Nat) (hl : ∀ c ∈ l0, isU8 c) (hn : n ≤ l0.length) (hcc : cap ≤ cc) (hlen : n ≤ 1000) :
    Con Try.prog 17 [.slice 0 .z 1 n cap] [.buf 5 .u8 l0 cc] (fun v H R => R = [0] ∧ ((∃ l c', OkE (l0.take n) l ∧ H = [.buf 5 .u8 l c'] ∧ v = .tup [.slice 0 .z 1 l.length c', .bool true]) ∨
      ((∀ l, ¬ OkE (l0.take n) l) ∧ ∃ l' c', H = [.buf 5 .u8 l' c'] ∧ (v = .tup [.val (.slice none 0 0), .bool false] ∨ ∃ n', v = .tup [.slice 0 .z 1 n' c', .bool false])))) := by
  have hlen1 := len_con2
  have htl : (l0.take n).length = n := by rw [List.length_take]; omega
  have hsz : ∀ (w : Int) (c' : Nat) (m : Int), isU8 w → Msz (l0.take n ++ [w]) m → Con Try.prog 46 [.slice 0 .z 1 (n + 1) c'] [.ro .u8 (l0.take n ++ [w])] (fun v H R => v = .int .i64 m ∧ H = [.ro .u8 (l0.take n ++ [w])] ∧ R = []) := by
    intro w c' m hw hm
    have := size_con (l0.take n ++ [w]) c' m (fun c hc => (List.mem_append.1 hc).elim (fun h => hl c (List.mem_of_mem_take h)) (fun h => by rw [List.mem_singleton.1 h]; exact hw)) (by rw [List.length_append, htl]; simp; omega) hm
    rw [List.length_append, htl] at this
    exact this
  have hex := fun w => Msz.ex (l0.take n ++ [w])
  have hpos : ∀ w m, Msz (l0.take n ++ [w]) m → (0 < m ↔ ∃ M, Wt (l0.take n ++ [w]) M) := by
    intro w m hm
    rcases hm with ⟨M, hW, rfl⟩ | ⟨h, rfl⟩
    · exact ⟨fun _ => ⟨M, hW⟩, fun _ => by have := hW.pos; omega⟩
    · exact ⟨fun h' => by omega, fun ⟨M, h'⟩ => (h M h').elim⟩
  have hsmA : smA (l0.take n) = sm l0 n := by unfold smA; rw [htl]; exact sm_ext (fun i hi => getD_take hi)
  have hok : ∀ l, OkE (l0.take n) l → n ≤ 255 ∧ (∀ i, i < n → l0.getD i 0 ≤ 11) ∧ 0 < sm l0 n ∧ (∃ k : Nat, 2 ^ (blen (sm l0 n)).toNat - sm l0 n = 2 ^ k ∧ l = l0.take n ++ [(k : Int) + 1]) ∧ ∃ M, Wt l M := by
    intro l h
    unfold OkE at h
    rw [htl, hsmA] at h
    exact ⟨h.1, fun i hi => by have := h.2.1 i hi; rw [getD_take hi] at this; exact this, h.2.2⟩
  have hko : ∀ (k M : Nat), n ≤ 255 → (∀ i, i < n → l0.getD i 0 ≤ 11) → 0 < sm l0 n → 2 ^ (blen (sm l0 n)).toNat - sm l0 n = 2 ^ k → Wt (l0.take n ++ [(k : Int) + 1]) M → OkE (l0.take n) (l0.take n ++ [(k : Int) + 1]) := by
    intro k M h1 h2 h3 h4 h5
    unfold OkE
    rw [htl, hsmA]
    exact ⟨h1, fun i hi => by rw [getD_take hi]; exact h2 i hi, h3, ⟨k, h4, rfl⟩, M, h5⟩
  have hover := @blen_over
  have htl1 : ∀ w : Int, (l0.take n ++ [w]).length = n + 1 := fun w => by rw [List.length_append, htl]; rfl
  refine con_gen (con_cut 1 (by simp) (con_red [0] (con_walk hmix fn17 ?_)))
  intro vb vc vw vtoN vofN vaddN vsubN vmaxI vminI vcutN vgd vst vln vrep vsub vonto vsplice vstrEq vbyteV vnotB veqB hw qb qc qw qtoN qofN qaddN qsubN qmaxI qminI qcutN qgd qst qln qrep qsub qonto qsplice qstrEq qbyteV qnotB qeqB
  have hm := hmix; generalize Try.prog = P at *
  have hge := getD_u8 hl
  have hsr := fun i => @sm_range l0 i
  have hs0 : sm l0 0 = 0 := rfl
  have hss : ∀ i, sm l0 (i + 1) = sm l0 i + pw (l0.getD i 0) := fun _ => rfl
  have hpr := @pw_range
  have hpwd : ∀ w : Int, 0 ≤ w → w ≤ 11 → vb .shr .u64 (vb .shl .u64 1 w) 1 = pw w := fun w h0 h1 => by rw [qb]; exact pw_word h0 h1
  have hand : ∀ s : Int, 1 ≤ s → s < 2 ^ 64 → (vb .and .u64 s (s - 1) = 0 ↔ ∃ k : Nat, s = 2 ^ k) := fun s h0 h1 => by rw [qb]; exact and_pow h0 h1
  have hbp := blen_pow
  have hbr : ∀ x : Int, 0 ≤ x → x < 2 ^ 20 → 0 ≤ blen x ∧ blen x ≤ 20 := fun x h0 h1 => blen_range (n := 20) h0 h1
  generalize sm l0 = SM at *
  generalize pw = PW at *
  generalize blen = BL at *
  generalize hTK : l0.take n = TK at *
  generalize OkE TK = OK at *
  generalize hl0 : l0.length = nl at *
  have hto : ∀ i : Nat, vtoN (i : Int) = i := fun i => by simp only [qtoN, Int.toNat_natCast]
  have hadd0 : ∀ i, vaddN 0 i = i := fun i => by simp only [qaddN, Nat.zero_add]
  have hvln : vln l0 = nl := by simp only [qln, hl0]
  have hvgd : ∀ i, vgd l0 i = l0.getD i 0 := fun i => by simp only [qgd]
  obtain ⟨nI, hnI⟩ : ∃ nI : Int, nI = n := ⟨_, rfl⟩
  have en : vofN n = nI := by rw [hnI, qofN]
  cbv
  simp only [nc] at *
  rw [en]
  refine loop_fam (α := Int × Int) ([6] ++ [12, 13, 14, 15, 16, 17, 18, 19, 20, 21, 22]) [0] (fun (k, s) => [(11, .int .i64 k), (4, .int .u64 s)]) (fun _ => [])
    (fun (k, s) => ∃ i : Nat, k = i ∧ i ≤ n ∧ s = SM i ∧ ∀ j, j < i → l0.getD j 0 ≤ 11) (fun (k, _) => n - k.toNat) hw hm ?_ ?_
  · refine Cv.genAt [11, 4] [] (Cv.fold ([6] ++ [12, 13, 14, 15, 16, 17, 18, 19, 20, 21, 22]) 1 [0] (by exact Nat.le_refl _) (by exact Nat.le_of_ble_eq_true rfl) (by rfl) (by cbv) ?_)
    intro js
    refine ⟨(_, _), ?_, js, rfl⟩
    exact ⟨0, rfl, by ((try simp only [nc] at *); omega), hs0.symm, fun j hj => by ((try simp only [nc] at *); omega)⟩
  · rintro ⟨k, s⟩ js ⟨i, hk, hi, hs, hj⟩
    have hsi := hsr i hj
    cbv
    generalize hz4 : vc .lss k nI = z4
    cases z4
    rotate_left
    · rw [qc, lss_true] at hz4
      have hlt : i < n := by ((try simp only [nc] at *); omega)
      have hti : vtoN k = i := by rw [hk]; exact hto i
      have hinR : 0 ≤ k ∧ k < (n : Int) := by ((try simp only [nc] at *); omega)
      obtain ⟨k1, hk1⟩ : ∃ k1 : Int, k1 = ((i + 1 : Nat) : Int) := ⟨_, rfl⟩
      have ek : vb .add .i64 k 1 = k1 := by rw [qb, add_i64 (by ((try simp only [nc] at *); omega)) (by ((try simp only [nc] at *); omega))]; ((try simp only [nc] at *); omega)
      have hmu : ∀ _ : Unit, n - k1.toNat < n - k.toNat := fun _ => by ((try simp only [nc] at *); omega)
      have hx := hge i
      have hss1 := hss i
      have hlt2 : i < nl := by ((try simp only [nc] at *); omega)
      cbv
      rw [hti, hadd0, hvgd, hvln]
      refine ⟨⟨hinR⟩, ⟨hlt2⟩, ⟨hlt2⟩, ?_⟩
      generalize hxi : l0.getD i 0 = x at *
      generalize hz5 : vc .gtr x 11 = z5
      cases z5
      rotate_left
      · rw [qc, gtr_true] at hz5
        cbv
        exact .inr ⟨fun l h => by have := (hok l h).2.1 i hlt; rw [hxi] at this; ((try simp only [nc] at *); omega), l0, cc, rfl, .inl rfl⟩
      rw [qc, gtr_false] at hz5
      have hpx := hpr (w := x) (by ((try simp only [nc] at *); omega))
      have hpw := hpwd x (by ((try simp only [nc] at *); omega)) (by ((try simp only [nc] at *); omega))
      obtain ⟨s1, hs1⟩ : ∃ s1, s1 = SM (i + 1) := ⟨_, rfl⟩
      have es : vb .add .u64 s (PW x) = s1 := by
        rw [qb, hs1, hss1, ← hs]
        exact wrap_u64 (by ((try simp only [nc] at *); omega)) (by ((try simp only [nc] at *); omega))
      have hjj : ∀ j, j < i + 1 → l0.getD j 0 ≤ 11 := fun j hj2 => by
        by_cases e : j = i
        · subst e; ((try simp only [nc] at *); omega)
        · exact hj j (by ((try simp only [nc] at *); omega))
      cbv
      rw [hpw, es, ek]
      refine ⟨⟨by ((try simp only [nc] at *); omega)⟩, ?_⟩
      refine Cv.fold ([6] ++ [12, 13, 14, 15, 16, 17, 18, 19, 20, 21, 22]) 1 [0] (by exact Nat.le_refl _) (by exact Nat.le_of_ble_eq_true rfl) (by rfl) (by cbv) ?_
      intro js
      refine ⟨(_, _), ?_, js, rfl⟩
      exact ⟨⟨i + 1, hk1, hlt, hs1, hjj⟩, hmu ()⟩
    · rw [qc, lss_false] at hz4
      obtain rfl : i = n := by ((try simp only [nc] at *); omega)
      cbv
      generalize hz5 : vc .eql s 0 = z5
      cases z5
      rotate_left
      · rw [qc, eql_true] at hz5
        cbv
        exact .inr ⟨fun l h => by have := (hok l h).2.2.1; ((try simp only [nc] at *); omega), l0, cc, rfl, .inl rfl⟩
      rw [qc, eql_false] at hz5
      cbv
      rw [en]
      generalize hz6 : vc .gtr nI 255 = z6
      cases z6
      rotate_left
      · rw [qc, gtr_true] at hz6
        cbv
        exact .inr ⟨fun l h => by have := (hok l h).1; ((try simp only [nc] at *); omega), l0, cc, rfl, .inl rfl⟩
      rw [qc, gtr_false] at hz6
      have hs18 : 0 < s ∧ s ≤ 262144 := by ((try simp only [nc] at *); omega)
      obtain ⟨ho1, ho2⟩ := hover hs18.1
      have hc1 := hlen1 s ⟨by ((try simp only [nc] at *); omega), by ((try simp only [nc] at *); omega)⟩
      obtain ⟨K, hK⟩ : ∃ K : Nat, K = (BL s).toNat := ⟨_, rfl⟩
      rw [← hK] at ho1 ho2
      obtain ⟨bI, hbI⟩ : ∃ bI : Int, bI = BL s := ⟨_, rfl⟩
      rw [← hbI] at hc1 hK
      have hbI2 := hbr s (by ((try simp only [nc] at *); omega)) (by ((try simp only [nc] at *); omega))
      rw [← hbI] at hbI2
      have hKb : (K : Int) = bI := by ((try simp only [nc] at *); omega)
      have hpK20 : (2 : Int) ^ K ≤ 2 ^ 20 := pow_up (by ((try simp only [nc] at *); omega))
      obtain ⟨pK, hpK⟩ : ∃ pK : Int, pK = 2 ^ K := ⟨_, rfl⟩
      rw [← hpK] at ho1 ho2 hpK20
      have ewb : vw .u64 bI = bI := by rw [qw]; exact wrap_u64 (by ((try simp only [nc] at *); omega)) (by ((try simp only [nc] at *); omega))
      have hbits : (2 : Int) ^ (IntKind.u64).bits = 18446744073709551616 := by decide
      have esl : vb .shl .u64 1 bI = pK := by
        have e : 1 * 2 ^ bI.toNat = pK := by rw [← hK, hpK, Int.one_mul]
        rw [qb, shl_u rfl (by decide) (by show bI ≤ 64; ((try simp only [nc] at *); omega)) (by rw [e, hbits]; ((try simp only [nc] at *); omega)), e]
      obtain ⟨re, hre⟩ : ∃ re : Int, re = pK - s := ⟨_, rfl⟩
      have esb : vb .sub .u64 pK s = re := by rw [qb, hre]; exact wrap_u64 (by ((try simp only [nc] at *); omega)) (by ((try simp only [nc] at *); omega))
      obtain ⟨re1, hre1⟩ : ∃ re1 : Int, re1 = re - 1 := ⟨_, rfl⟩
      have esb1 : vb .sub .u64 re 1 = re1 := by rw [qb, hre1]; exact wrap_u64 (by ((try simp only [nc] at *); omega)) (by ((try simp only [nc] at *); omega))
      have hands := hand re (by ((try simp only [nc] at *); omega)) (by ((try simp only [nc] at *); omega))
      rw [← hre1] at hands
      obtain ⟨an, han⟩ : ∃ an, an = vb .and .u64 re re1 := ⟨_, rfl⟩
      rw [← han] at hands
      cbv
      refine call_con (ρ := []) hc1 ⟨by rfl, by rfl, by rfl, by cbv⟩ ?_
      rintro v H R js2 ⟨rfl, rfl, rfl⟩
      cbv
      rw [ewb, esl, esb]
      refine ⟨⟨by ((try simp only [nc] at *); omega)⟩, ?_⟩
      rw [esb1, ← han]
      generalize hz7 : vc .neq an 0 = z7
      cases z7
      rotate_left
      · rw [qc, neq_true] at hz7
        cbv
        exact .inr ⟨fun l h => by
          obtain ⟨_, _, _, ⟨k, h4, _⟩, _⟩ := hok l h
          refine hz7 (hands.2 ⟨k, ?_⟩)
          rw [hre, hpK, hK, hbI, hs]
          exact h4, l0, cc, rfl, .inl rfl⟩
      rw [qc, neq_false] at hz7
      obtain ⟨kk, hkk⟩ := hands.1 (Classical.not_not.1 hz7)
      have hkb : BL re = kk + 1 := by rw [hkk]; exact hbp kk
      have hkr := hbr re (by ((try simp only [nc] at *); omega)) (by ((try simp only [nc] at *); omega))
      have hc2 := hlen1 re ⟨by ((try simp only [nc] at *); omega), by ((try simp only [nc] at *); omega)⟩
      obtain ⟨w, hw1⟩ : ∃ w : Int, w = (kk : Int) + 1 := ⟨_, rfl⟩
      rw [hkb, ← hw1] at hc2
      have hw8 : isU8 w := by unfold isU8; ((try simp only [nc] at *); omega)
      have eww : vw .u8 w = w := by rw [qw]; exact wrap_u8 (by have := hw8.1; ((try simp only [nc] at *); omega)) (by have := hw8.2; ((try simp only [nc] at *); omega))
      obtain ⟨m, hm0⟩ := hex w
      have hszw := fun c' => hsz w c' m hw8 hm0
      have hposw := hpos w m hm0
      have hkow := fun M h => hko kk M (by ((try simp only [nc] at *); omega)) hj (by ((try simp only [nc] at *); omega)) (by rw [← hs, ← hbI, ← hK, ← hpK, ← hre]; exact hkk) h
      rw [← hw1] at hkow
      have hoku : ∀ l, OK l → l = TK ++ [w] ∧ 0 < m := fun l h => by
        obtain ⟨_, _, _, ⟨k', h4, h5⟩, M, h6⟩ := hok l h
        have : k' = kk := by
          have h7 : (2 : Int) ^ k' = 2 ^ kk := by rw [← h4, ← hkk, hre, hpK, hK, hbI, hs]
          exact pow_inj h7
        subst this
        rw [← hw1] at h5
        subst h5
        exact ⟨rfl, hposw.2 ⟨M, h6⟩⟩
      obtain ⟨L2, hL2⟩ : ∃ L2, L2 = TK ++ [w] := ⟨_, rfl⟩
      have hont : vonto l0 i (vsub [w] 0 1) = L2 := by rw [hL2, ← hTK, qsub, qonto]; rfl
      have hL2n : L2.length = i + 1 := by rw [hL2]; exact htl1 w
      rw [← hL2] at hszw hposw hkow hoku
      have hadd1 : vaddN i 1 = i + 1 := by rw [qaddN]
      obtain ⟨i1, hi1⟩ : ∃ i1, i1 = i + 1 := ⟨_, rfl⟩
      rw [← hi1] at hszw hadd1 hL2n
      have hln1 : vln [w] = 1 := by rw [qln]; rfl
      have hi1b : i1 * 1 ≤ 140737488355328 := by omega
      cbv
      refine call_con (ρ := []) hc2 ⟨by rfl, by rfl, by rfl, by cbv⟩ ?_
      rintro v H R js3 ⟨rfl, rfl, rfl⟩
      cbv
      rw [eww]
      refine ⟨⟨by rw [hadd0, hln1]; exact Nat.le_refl _⟩, ⟨by rw [hvln]; exact hn⟩, ⟨hcc⟩, ⟨by rw [hadd1]; exact hi1b⟩, ?_⟩
      intro c1 js4 hle
      cbv
      rw [hont, hadd1]
      refine call_con (ρ := [(0, .z)]) (hszw c1) ⟨by rfl, by rfl, by rfl, by cbv; exact ⟨view_refl _, trivial⟩⟩ ?_
      rintro v H R js5 ⟨rfl, rfl, rfl⟩
      cbv
      generalize hz8 : vc .gtr m 0 = z8
      cases z8
      · rw [qc, gtr_false] at hz8
        exact .inr ⟨fun l h => hz8 (hoku l h).2, L2, c1, rfl, .inr ⟨i1, rfl⟩⟩
      · rw [qc, gtr_true] at hz8
        obtain ⟨M, hM⟩ := hposw.1 hz8
        subst hL2n
        exact .inl ⟨L2, c1, hkow M hM, rfl, rfl⟩
end Go.Proofs.Ytaaklikigccdfaa
namespace Go.Proofs.Ytaaklikigccdfaa
open Go Go.Sx Go.Proofs
set_option maxHeartbeats 4000000 in
theorem refnew_good (b : List Int) (cap : Nat) (hb : b.getLastD 0 ≠ 0) (hby : ∀ x ∈ b, isByte x) (hl : 8 * b.length ≤ 140737488355328) : Con Try.prog 49 [.slice 0 .z 1 b.length cap] [.ro .u8 b]
    (fun v H R => v = .tup [.ptr 1 .z 2 0, .lit .i64 0] ∧ R = [2] ∧ ∃ (P c : Nat), markAt b = P ∧ P < 8 * b.length ∧ H = [.ro .u8 b, .one 114 [.slice 2 .z 1 P c, .int .i64 P], .buf 5 .u8 (bitsOf b (8 * b.length)) c]) := by
  obtain ⟨PP, hPP, hPl, hP1, hP0⟩ := markAt_spec b hb hby
  have hbb := byte_bit hby
  refine con_cut 3 (by simp) (con_red [2] (con_walk hmix fn49 ?_))
  intro vb vc vw vtoN vofN vaddN vsubN vmaxI vminI vcutN vgd vst vln vrep vsub vonto vsplice vstrEq vbyteV vnotB veqB hw qb qc qw qtoN qofN qaddN qsubN qmaxI qminI qcutN qgd qst qln qrep qsub qonto qsplice qstrEq qbyteV qnotB qeqB
  have hm := hmix
  generalize Try.prog = P at *
  rw [getLastD_eq] at hb
  have h0 : 1 ≤ b.length := by
    rcases b with _ | ⟨x, b⟩
    · exact absurd rfl hb
    · simp
  generalize hBB : bitsOf b (8 * b.length) = BB
  generalize markAt b = MA at *
  generalize hlen : b.length = len at *
  generalize hlast : b.getD (len - 1) 0 = last at *
  cbv
  have e0 : vc .eql (vofN len) 0 = false := by simp only [qc, qofN]; rw [eql_false]; simp only [nc] at *; omega
  rw [e0]
  have hsub : vb .sub .i64 (vofN len) 1 = len - 1 := by simp only [qb, qofN]; simp only [nc] at *; rw [sub_i64 (by omega) (by omega)]
  have hin : 0 ≤ vb .sub .i64 (vofN len) 1 ∧ vb .sub .i64 (vofN len) 1 < len := by rw [hsub]; simp only [nc] at *; omega
  have hi : vtoN (vb .sub .i64 (vofN len) 1) = len - 1 := by rw [hsub]; simp only [qtoN]; simp only [nc] at *; omega
  have hlt2 : vtoN (vb .sub .i64 (vofN len) 1) < vln b := by rw [hi]; simp only [qln]; omega
  have hlt3 : vaddN 0 (vtoN (vb .sub .i64 (vofN len) 1)) < vln b := by simp only [qaddN, Nat.zero_add]; exact hlt2
  have hval : vgd b (vtoN (vb .sub .i64 (vofN len) 1)) = last := by rw [hi]; simp only [qgd]; exact hlast
  have hz : vc .eql (vgd b (vtoN (vb .sub .i64 (vofN len) 1))) 0 = false := by rw [hval, qc, eql_false]; exact hb
  cbv
  refine ⟨⟨hin⟩, ⟨hlt3⟩, ⟨hlt2⟩, ?_⟩
  rw [hz]
  cbv
  refine WX.cv (Cv.nilB 1 0 5 .u8 (by rfl) (by cbv) (Cv.here ?_))
  cbv
  have h8 : vb .mul .i64 8 (vofN len) = ((8 * len : Nat) : Int) := by simp only [qb, qofN]; simp only [nc] at *; rw [mul_i64 (by omega) (by omega)]; omega
  refine loop_fam (α := Int × List Int × Nat × Nat) [20, 21, 22, 23, 24, 25, 26, 27, 28, 29, 30, 31, 32, 33, 34, 35, 36, 37, 38, 39, 40, 41, 42, 43, 44, 45] [2]
    (fun (k, l, n, c) => [(5, .int .i64 k)]) (fun (k, l, n, c) => [(1, .one 114 [.slice 2 .z 1 n c, .int .i64 0]), (2, .buf 5 .u8 l c)])
    (fun (k, l, n, c) => ∃ i : Nat, k = i ∧ i ≤ 8 * len ∧ l = bitsOf b i ∧ n = i ∧ n ≤ c) (fun (k, _) => 8 * len - k.toNat) hw hm ?_ ?_
  · refine Cv.genAt [5] [1] (Cv.fold [20, 21, 22, 23, 24, 25, 26, 27, 28, 29, 30, 31, 32, 33, 34, 35, 36, 37, 38, 39, 40, 41, 42, 43, 44, 45] 3 [2] (by exact Nat.le_refl _) (by exact Nat.le_refl _) (by rfl) (by cbv) ?_)
    intro js
    refine ⟨(_, _, _, _), ?_, js, rfl⟩
    exact ⟨0, rfl, by omega, rfl, rfl, Nat.le_refl _⟩
  · rintro ⟨k, l, n, c⟩ js ⟨i, hk, hile, hl', hn, hnc⟩
    have hll : l.length = i := by rw [hl', bitsOf_length]
    cbv
    split
    · rename_i hlt
      have hlt : i < 8 * len := by rw [h8, qc, lss_true] at hlt; simp only [nc] at *; omega
      have hk1 : vb .add .i64 k 1 = ((i + 1 : Nat) : Int) := by simp only [nc] at *; rw [qb, add_i64 (by omega) (by omega)]; omega
      have hq : vb .quo .i64 k 8 = k / 8 := by simp only [nc] at *; rw [qb, quo_i64 (by omega) (by omega) (by omega)]
      have hr : vb .rem .i64 k 8 = k % 8 := by simp only [nc] at *; rw [qb, rem_i64 (by omega)]
      have hwr : vw .u64 (k % 8) = k % 8 := by simp only [nc] at *; simp only [qw]; exact wrap_u64 (by omega) (by omega)
      have hink : 0 ≤ vb .quo .i64 k 8 ∧ vb .quo .i64 k 8 < len := by rw [hq]; simp only [nc] at *; omega
      have hqn : vtoN (vb .quo .i64 k 8) = (k / 8).toNat := by rw [hq]; simp only [qtoN]
      have hltk : vtoN (vb .quo .i64 k 8) < vln b := by rw [hqn]; simp only [qln]; simp only [nc] at *; omega
      have hltk2 : vaddN 0 (vtoN (vb .quo .i64 k 8)) < vln b := by simp only [qaddN, Nat.zero_add]; exact hltk
      have hnn : 0 ≤ vw .u64 (vb .rem .i64 k 8) := by rw [hr, hwr]; omega
      have hbit : vb .and .u8 (vb .shr .u8 (vgd b (vtoN (vb .quo .i64 k 8))) (vw .u64 (vb .rem .i64 k 8))) 1 = bitAt b i := by
        simp only [nc] at *
        rw [hr, hwr, hqn, qb, shr_eq (by show k % 8 ≤ ((8 : Nat) : Int); omega)]
        simp only [qgd]
        have hby := hbb (k / 8).toNat
        have e : bitAt b (i : Int) = b.getD (k / 8).toNat 0 / 2 ^ (k % 8).toNat % 2 := by rw [← hk]; unfold bitAt; rw [if_pos (by omega)]
        rw [e]
        generalize b.getD (k / 8).toNat 0 = y at *
        have h1 : 0 ≤ y / 2 ^ (k % 8).toNat := Int.ediv_nonneg hby.1 (Int.le_of_lt (Int.pow_pos (by decide)))
        have h2 : y / 2 ^ (k % 8).toNat ≤ y := Int.ediv_le_self _ hby.1
        have h3 := hby.2
        rw [and_one rfl h1 (by show _ < (2 : Int) ^ 8; omega)]
      cbv
      refine ⟨⟨hink⟩, ⟨hltk2⟩, ⟨hltk⟩, ⟨hnn⟩, ⟨⟨hltk⟩, trivial⟩, ⟨by simp only [qaddN, qln]; exact Nat.le_refl _⟩, ⟨by simp only [qln]; omega⟩, ⟨Nat.le_refl _⟩, ⟨by simp only [qaddN]; omega⟩, ?_⟩
      intro c1 js1 hle
      cbv
      refine ⟨⟨⟨hltk⟩, trivial⟩, ?_⟩
      refine Cv.fold [20, 21, 22, 23, 24, 25, 26, 27, 28, 29, 30, 31, 32, 33, 34, 35, 36, 37, 38, 39, 40, 41, 42, 43, 44, 45] 3 [2] (by exact Nat.le_refl _) (by exact Nat.le_of_ble_eq_true rfl) (by rfl) (by cbv) ?_
      intro js
      refine ⟨(_, _, _, _), ?_, js, rfl⟩
      have hnew : vonto l n (vsub [vb .and .u8 (vb .shr .u8 (vgd b (vtoN (vb .quo .i64 k 8))) (vw .u64 (vb .rem .i64 k 8))) 1] 0 1) = bitsOf b (i + 1) := by
        rw [hbit, bitsOf_succ]; simp only [qonto, qsub]; rw [← hl', hn]; simp [← hll]
      have hle' : vaddN n 1 ≤ c1 := hle.out
      exact ⟨⟨i + 1, hk1, hlt, hnew, by simp only [qaddN]; omega, hle'⟩, by show 8 * len - (vb .add .i64 k 1).toNat < 8 * len - k.toNat; rw [hk1, hk]; simp only [nc] at *; omega⟩
    · rename_i hge
      have hin8 : i = 8 * len := by rw [h8, qc, lss_false] at hge; simp only [nc] at *; omega
      have hnn : n = 8 * len := by omega
      have hlB : l = BB := by rw [hl', hin8, hBB]
      have hBn : BB.length = 8 * len := by rw [← hlB, hll, hin8]
      cbv
      refine loop_fam (α := Nat) [46, 47, 48, 49, 50, 51, 52, 53, 54, 55, 56, 57, 58, 59, 60, 61, 62, 63, 64, 65, 66, 67, 68, 69, 70, 71, 72] [2] (fun k => []) (fun k2 => [(1, .one 114 [.slice 2 .z 1 k2 c, .int .i64 0])]) (fun k2 => PP + 1 ≤ k2 ∧ k2 ≤ 8 * len) (fun k2 => k2) hw hm ?_ ?_
      · refine Cv.fold [46, 47, 48, 49, 50, 51, 52, 53, 54, 55, 56, 57, 58, 59, 60, 61, 62, 63, 64, 65, 66, 67, 68, 69, 70, 71, 72] 3 [2] (by exact Nat.le_refl _) (by exact Nat.le_of_ble_eq_true rfl) (by rfl) (by cbv) ?_
        intro js
        refine ⟨n, ⟨by omega, by omega⟩, js, rfl⟩
      · rintro k2 js ⟨hk2, hk2'⟩
        have hs : vb .sub .i64 (vofN k2) 1 = ((k2 - 1 : Nat) : Int) := by simp only [qb, qofN]; simp only [nc] at *; rw [sub_i64 (by omega) (by omega)]; omega
        have hin : 0 ≤ vb .sub .i64 (vofN k2) 1 ∧ vb .sub .i64 (vofN k2) 1 < k2 := by rw [hs]; simp only [nc] at *; omega
        have hc2 : 0 ≤ vb .sub .i64 (vofN k2) 1 ∧ vb .sub .i64 (vofN k2) 1 ≤ c := by rw [hs]; simp only [nc] at *; omega
        have hi2 : vtoN (vb .sub .i64 (vofN k2) 1) = k2 - 1 := by rw [hs]; simp only [qtoN]; omega
        have hlt2 : vtoN (vb .sub .i64 (vofN k2) 1) < vln l := by rw [hi2]; simp only [qln]; omega
        have hlt3 : vaddN 0 (vtoN (vb .sub .i64 (vofN k2) 1)) < vln l := by simp only [qaddN, Nat.zero_add]; exact hlt2
        have hv2 : vgd l (vtoN (vb .sub .i64 (vofN k2) 1)) = bitAt b ((k2 - 1 : Nat) : Int) := by
          rw [hi2, hl']; simp only [qgd]; exact bitsOf_get b i (k2 - 1) (by omega)
        cbv
        refine ⟨⟨hin⟩, ⟨hlt3⟩, ⟨hlt2⟩, ?_⟩
        split
        · rename_i hz
          have hz : bitAt b ((k2 - 1 : Nat) : Int) = 0 := by rw [hv2, qc, eql_true] at hz; exact hz
          have hne : k2 - 1 ≠ PP := fun e => by rw [e] at hz; simp only [nc] at *; omega
          cbv
          refine ⟨⟨hc2⟩, ?_⟩
          refine Cv.fold [46, 47, 48, 49, 50, 51, 52, 53, 54, 55, 56, 57, 58, 59, 60, 61, 62, 63, 64, 65, 66, 67, 68, 69, 70, 71, 72] 3 [2] (by exact Nat.le_refl _) (by exact Nat.le_of_ble_eq_true rfl) (by rfl) (by cbv) ?_
          intro js
          refine ⟨_, ⟨⟨?_, ?_⟩, ?_⟩, js, rfl⟩
          all_goals (rw [hi2]; omega)
        · rename_i hz
          have hz : bitAt b ((k2 - 1 : Nat) : Int) ≠ 0 := by rw [hv2, qc, eql_false] at hz; exact hz
          have hPk : k2 - 1 = PP := Classical.byContradiction fun h => hz (hP0 (k2 - 1) (by omega) (by omega))
          cbv
          have e1 : vtoN (vb .sub .i64 (vofN k2) 1) = PP := by rw [hi2]; exact hPk
          have e2 : vofN PP = (PP : Int) := by simp only [qofN]
          refine ⟨⟨hc2⟩, PP, c, hPP, by omega, ?_⟩
          rw [e1, e2, hlB]
          rfl
theorem refnew_bad (b : List Int) (cap : Nat) (hb : b.getLastD 0 = 0) (hl : b.length ≤ 2 ^ 48) : Con Try.prog 49 [.slice 0 .z 1 b.length cap] [.ro .u8 b] (fun v H R => v = .tup [.val (.pointer none), .lit .i64 11] ∧ H = [.ro .u8 b] ∧ R = []) := by
  refine con_cut 1 (by simp) (con_red [] (con_walk hmix fn49 ?_))
  intro vb vc vw vtoN vofN vaddN vsubN vmaxI vminI vcutN vgd vst vln vrep vsub vonto vsplice vstrEq vbyteV vnotB veqB hw qb qc qw qtoN qofN qaddN qsubN qmaxI qminI qcutN qgd qst qln qrep qsub qonto qsplice qstrEq qbyteV qnotB qeqB
  generalize Try.prog = P at *
  rw [getLastD_eq] at hb
  generalize hlen : b.length = len at *
  cbv
  generalize h0 : vc .eql (vofN len) 0 = z0
  cases z0
  rotate_left
  · cbv
  · have h0 : 1 ≤ len := by rw [qc, qofN, eql_false] at h0; simp only [nc] at *; omega
    have hsub : vb .sub .i64 (vofN len) 1 = len - 1 := by rw [qb, qofN]; simp only [nc] at *; rw [sub_i64 (by omega) (by omega)]
    have hin : 0 ≤ vb .sub .i64 (vofN len) 1 ∧ vb .sub .i64 (vofN len) 1 < len := by rw [hsub]; simp only [nc] at *; omega
    have hi : vtoN (vb .sub .i64 (vofN len) 1) = len - 1 := by rw [hsub, qtoN]; simp only [nc] at *; omega
    have hlt2 : vtoN (vb .sub .i64 (vofN len) 1) < vln b := by rw [hi, qln]; simp only [nc] at *; omega
    have hlt3 : vaddN 0 (vtoN (vb .sub .i64 (vofN len) 1)) < vln b := by rw [qaddN]; simpa using hlt2
    cbv
    refine ⟨⟨hin⟩, ⟨hlt3⟩, ⟨hlt2⟩, ?_⟩
    have hz : vc .eql (vgd b (vtoN (vb .sub .i64 (vofN len) 1))) 0 = true := by rw [hi, qgd, qc, eql_true]; exact hb
    rw [hz]
    cbv
set_option maxHeartbeats 4000000 in
theorem refbits_con (b : List Int) (P0 c : Nat) (p n : Int) (hP : P0 ≤ 8 * b.length) (hl : 8 * b.length ≤ 140737488355328) (hp : -1099511627776 ≤ p ∧ p ≤ P0) :
    Con Try.prog 50 [.ptr 0 .z 2 0, .int .i64 n] [.one 114 [.slice 1 .z 1 P0 c, .int .i64 p], .ro .u8 (bitsOf b (8 * b.length))]
      (fun v H R => v = .int .u64 (rd b p (clampN n)) ∧ R = [] ∧ H = [.one 114 [.slice 1 .z 1 P0 c, .int .i64 (floorP (p - clampN n))], .ro .u8 (bitsOf b (8 * b.length))]) := by
  refine con_gen (con_cut 2 (by simp) (con_red [] (con_walk hmix fn50 ?_)))
  intro vb vc vw vtoN vofN vaddN vsubN vmaxI vminI vcutN vgd vst vln vrep vsub vonto vsplice vstrEq vbyteV vnotB veqB hw qb qc qw qtoN qofN qaddN qsubN qmaxI qminI qcutN qgd qst qln qrep qsub qonto qsplice qstrEq qbyteV qnotB qeqB
  have hm := hmix
  generalize Try.prog = P at *
  have hN : vminI (vmaxI n 0) 56 = (clampN n : Nat) := by rw [qmaxI, qminI]; unfold clampN; simp only [nc]; split <;> split <;> omega
  have hN56 := clampN_le n
  have hF : floorP (p - clampN n) = vmaxI (p - clampN n) (-1099511627776) := by simp only [qmaxI]; unfold floorP; (repeat' split) <;> first | rfl | omega
  rw [hF]
  generalize clampN n = N at *
  generalize hV : rd b p N = V
  generalize hB : bitsOf b (8 * b.length) = B
  have hBn : B.length = 8 * b.length := by rw [← hB, bitsOf_length]
  have hBg : ∀ i : Nat, i < 8 * b.length → B.getD i 0 = bitAt b i := fun i hi => by rw [← hB]; exact bitsOf_get b _ i hi
  generalize hNN : ((N : Nat) : Int) = N0 at *
  have hsub0 : vb .sub .i64 p N0 = p - N0 := by rw [qb, sub_i64 (by omega) (by omega)]
  generalize hq : p - N0 = q at *
  cbv
  rw [hN, hsub0]
  refine loop_fam (α := Int × Int) [20, 21, 22, 23, 24, 25, 26, 27, 28, 29, 30, 31, 32, 33, 34, 35, 36, 37, 38, 39, 40, 41, 42, 43, 44, 45, 46, 47] []
    (fun (x, k) => [(5, .int .u64 x), (6, .int .i64 k)]) (fun (x, k) => [])
    (fun (x, k) => ∃ i : Nat, k = (N : Int) - 1 - i ∧ i ≤ N ∧ x = rd b p i) (fun (x, k) => (k + 1).toNat) hw hm ?_ ?_
  · refine Cv.genAt [5, 6] [] (Cv.fold [20, 21, 22, 23, 24, 25, 26, 27, 28, 29, 30, 31, 32, 33, 34, 35, 36, 37, 38, 39, 40, 41, 42, 43, 44, 45, 46, 47] 2 [] (by exact Nat.le_refl _) (by exact Nat.le_of_ble_eq_true rfl) (by rfl) (by cbv) ?_)
    intro js
    refine ⟨(_, _), ?_, js, rfl⟩
    exact ⟨0, by simp only [nc] at *; rw [qb, sub_i64 (by omega) (by omega)]; omega, by omega, rfl⟩
  · rintro ⟨x, k⟩ js ⟨i, hk, hi, hx⟩
    have hx2 := rd_bound b p i
    cbv
    split
    · rename_i hlt
      have hlt : i < N := by rw [qc, geq_true] at hlt; simp only [nc] at *; omega
      have hqk : vb .add .i64 q k = p - 1 - i := by
        simp only [nc] at *
        rw [qb, add_i64 (by omega) (by omega)]; omega
      have hk1 : vb .sub .i64 k 1 = (N : Int) - 1 - ((i + 1 : Nat) : Int) := by simp only [nc] at *; rw [qb, sub_i64 (by omega) (by omega)]; omega
      have hmu : (vb .sub .i64 k 1 + 1).toNat < (k + 1).toNat := by rw [hk1, hk]; simp only [nc] at *; omega
      have hp56 := pow_le_56 (show i ≤ 56 by omega)
      have hshl : vb .shl .u64 x 1 = rd b p i * 2 := by
        rw [qb, hx, shl_u rfl hx2.1 (by decide) (by show _ * (2 : Int) ^ 1 < 2 ^ 64; omega)]; rfl
      cbv
      rw [hqk]
      generalize hz : p - 1 - (i : Int) = z at *
      cbv
      split
      · rename_i hge
        have hge : 0 ≤ z := by rw [qc, geq_true] at hge; exact hge
        have hzi : 0 ≤ z ∧ z < P0 := by simp only [nc] at *; omega
        have hlt2 : vtoN z < vln B := by simp only [qtoN, qln]; rw [hBn]; simp only [nc] at *; omega
        have hlt3 : vaddN 0 (vtoN z) < vln B := by simp only [qaddN, Nat.zero_add]; exact hlt2
        have hval : vb .or .u64 (vb .shl .u64 x 1) (vw .u64 (vgd B (vtoN z))) = rd b p (i + 1) := by
          have e : vgd B (vtoN z) = bitAt b z := by
            simp only [qgd, qtoN]
            rw [hBg _ (by simp only [nc] at *; omega)]
            exact congrArg (bitAt b) (Int.toNat_of_nonneg hge)
          have hbt := bitAt_bit b z
          rw [hshl, e]
          simp only [qw]
          rw [wrap_u64 hbt.1 (by omega), qb]
          have e2 : rd b p (i + 1) = rd b p i * 2 + bitAt b z := by rw [rd]; simp only [nc] at *; rw [hz]
          rw [e2]
          generalize bitAt b z = t at *
          have := or_add (k := .u64) rfl (x := t) (b := rd b p i) 1 hbt.1 (by omega) hx2.1 (by show _ < (2 : Int) ^ 64; omega)
          rw [or_comm_u rfl]
          simpa [Int.add_comm] using this
        cbv
        refine ⟨⟨by rw [hqk]; exact hzi⟩, ⟨by rw [hqk]; exact hlt3⟩, ⟨by rw [hqk]; exact hlt2⟩, ?_⟩
        refine Cv.fold [20, 21, 22, 23, 24, 25, 26, 27, 28, 29, 30, 31, 32, 33, 34, 35, 36, 37, 38, 39, 40, 41, 42, 43, 44, 45, 46, 47] 2 [] (by exact Nat.le_refl _) (by exact Nat.le_of_ble_eq_true rfl) (by rfl) (by cbv) ?_
        intro js
        refine ⟨(_, _), ?_, js, rfl⟩
        exact ⟨⟨i + 1, hk1, hlt, by rw [hqk]; exact hval⟩, hmu⟩
      · rename_i hge
        have hge : ¬ 0 ≤ z := by rw [qc, geq_false] at hge; exact hge
        have hval : vb .shl .u64 x 1 = rd b p (i + 1) := by
          rw [hshl, rd]
          simp only [nc] at *
          rw [hz]
          have : bitAt b z = 0 := by unfold bitAt; rw [if_neg hge]
          rw [this]; omega
        cbv
        refine Cv.fold [20, 21, 22, 23, 24, 25, 26, 27, 28, 29, 30, 31, 32, 33, 34, 35, 36, 37, 38, 39, 40, 41, 42, 43, 44, 45, 46, 47] 2 [] (by exact Nat.le_refl _) (by exact Nat.le_of_ble_eq_true rfl) (by rfl) (by cbv) ?_
        intro js
        refine ⟨(_, _), ?_, js, rfl⟩
        exact ⟨⟨i + 1, hk1, hlt, hval⟩, hmu⟩
    · rename_i hge
      have hin : i = N := by rw [qc, geq_false] at hge; simp only [nc] at *; omega
      have hxV : x = V := by rw [hx, hin, hV]
      cbv
      rw [hxV]
      exact ⟨rfl, trivial⟩
end Go.Proofs.Ytaaklikigccdfaa
namespace Go.Proofs.Ytaaklikigccdfaa
open Go Go.Sx Go.Proofs
/-! balerref09.Bits. -/
set_option maxRecDepth 10000
set_option maxHeartbeats 40000000
theorem Msz.refs {l : List Int} {m : Int} (hl : ∀ c ∈ l, isU8 c) (hm : Msz l m) (h1 : 2 ≤ l.length) (h2 : l.length ≤ 256) (h3 : l.getD (l.length - 1) 0 ≠ 0) (h4 : ∀ i, i < l.length → l.getD i 0 ≤ 11) :
    (∀ K : Nat, K ≤ 11 → sm l l.length = 2 ^ K → 2 ≤ on l l.length → m = K) ∧ ((∀ K : Nat, 1 ≤ K → K ≤ 11 → sm l l.length = 2 ^ K → ¬ 2 ≤ on l l.length) → m = 0) := by
  constructor
  · intro K hK hs ho
    rcases hm with ⟨M, hW, rfl⟩ | ⟨hn, rfl⟩
    · have := hW.2.2.2.2.2.1
      rw [hs] at this
      have := pow_inj this
      omega
    · exact (hn K ⟨h1, h2, h3, h4, ho, hs, hK⟩).elim
  · intro h
    rcases hm with ⟨M, hW, rfl⟩ | ⟨hn, rfl⟩
    · exact (h M hW.pos hW.2.2.2.2.2.2 hW.2.2.2.2.2.1 hW.2.2.2.2.1).elim
    · rfl
theorem refbits9_con (l : List Int) (cap : Nat) (m : Int) (hl : ∀ c ∈ l, isU8 c) (hlen : l.length ≤ 140737488355328) (hm0 : Msz l m) :
    Con Try.prog 27 [.slice 0 .z 1 l.length cap] [.ro .u8 l] (fun v H R => v = .int .i64 m ∧ H = [.ro .u8 l] ∧ R = []) := by
  refine con_gen (con_cut 1 (by simp) (con_drop (con_walk hmix fn27 ?_)))
  intro vb vc vw vtoN vofN vaddN vsubN vmaxI vminI vcutN vgd vst vln vrep vsub vonto vsplice vstrEq vbyteV vnotB veqB hw qb qc qw qtoN qofN qaddN qsubN qmaxI qminI qcutN qgd qst qln qrep qsub qonto qsplice qstrEq qbyteV qnotB qeqB
  have hm := hmix; generalize Try.prog = P at *
  have hends := hm0.refs hl
  have hnone := hm0.none
  have hge := getD_u8 hl
  have hsr := fun i => @sm_range l i
  have hor := on_range l
  have hs0 : sm l 0 = 0 := rfl
  have ho0 : on l 0 = 0 := rfl
  have hss : ∀ i, sm l (i + 1) = sm l i + pw (l.getD i 0) := fun _ => rfl
  have hosu : ∀ i, on l (i + 1) = on l i + (if l.getD i 0 = 1 then 1 else 0) := fun _ => rfl
  have hpr := @pw_range
  have hpz : ∀ w : Int, w ≤ 0 → pw w = 0 := fun w h => by unfold pw; rw [if_pos h]
  have hpwd : ∀ w : Int, 0 < w → w ≤ 11 → vb .shl .i64 1 (w - 1) = pw w := fun w h0 h1 => by rw [qb, one_shl62 (by omega) (by omega)]; unfold pw; rw [if_neg (by omega)]
  clear hm0
  generalize sm l = SM at *
  generalize on l = ON at *
  generalize pw = PW at *
  generalize hn : l.length = n at *
  have hto : ∀ i : Nat, vtoN (i : Int) = i := fun i => by simp only [qtoN, Int.toNat_natCast]
  have hadd0 : ∀ i, vaddN 0 i = i := fun i => by simp only [qaddN, Nat.zero_add]
  have hvln : vln l = n := by simp only [qln, hn]
  have hvgd : ∀ i, vgd l i = l.getD i 0 := fun i => by simp only [qgd]
  obtain ⟨nI, hnI⟩ : ∃ nI : Int, nI = n := ⟨_, rfl⟩
  have en : vofN n = nI := by rw [hnI, qofN]
  cbv
  simp only [nc] at *
  rw [en]
  generalize hz1 : vc .lss nI 2 = z1
  cases z1
  rotate_left
  · rw [qc, lss_true] at hz1
    cbv
    have := hnone (.inl (by ((try simp only [nc] at *); omega)))
    subst this
    exact ⟨rfl, trivial⟩
  rw [qc, lss_false] at hz1
  cbv
  rw [en]
  generalize hz2 : vc .gtr nI 256 = z2
  cases z2
  rotate_left
  · rw [qc, gtr_true] at hz2
    cbv
    have := hnone (.inr (.inl (by ((try simp only [nc] at *); omega))))
    subst this
    exact ⟨rfl, trivial⟩
  rw [qc, gtr_false] at hz2
  obtain ⟨nm, hnm⟩ : ∃ nm : Int, nm = ((n - 1 : Nat) : Int) := ⟨_, rfl⟩
  have enm : vb .sub .i64 nI 1 = nm := by rw [qb, sub_i64 (by ((try simp only [nc] at *); omega)) (by ((try simp only [nc] at *); omega))]; ((try simp only [nc] at *); omega)
  have htm : vtoN nm = n - 1 := by rw [hnm]; exact hto _
  cbv
  rw [en, enm, htm, hadd0, hvgd, hvln]
  refine ⟨⟨by ((try simp only [nc] at *); omega)⟩, ⟨by ((try simp only [nc] at *); omega)⟩, ⟨by ((try simp only [nc] at *); omega)⟩, ?_⟩
  generalize hz3 : vc .eql (l.getD (n - 1) 0) 0 = z3
  cases z3
  rotate_left
  · rw [qc, eql_true] at hz3
    cbv
    have := hnone (.inr (.inr (.inl hz3)))
    subst this
    exact ⟨rfl, trivial⟩
  rw [qc, eql_false] at hz3
  have hends := hends (by ((try simp only [nc] at *); omega)) (by ((try simp only [nc] at *); omega)) hz3
  cbv
  refine loop_fam (α := Int × Int × Int) [24, 25, 26, 27, 28, 29, 30, 31, 32, 33, 34, 35, 36, 37, 38, 39, 40, 41, 42, 43, 44, 45, 46, 47, 48, 49, 50, 51, 52, 53, 54, 55] [] (fun (k, s, o) => [(5, .int .i64 k), (3, .int .i64 s), (4, .int .i64 o)]) (fun _ => [])
    (fun (k, s, o) => ∃ i : Nat, k = i ∧ i ≤ n ∧ s = SM i ∧ o = ON i ∧ ∀ j, j < i → l.getD j 0 ≤ 11) (fun (k, _) => n - k.toNat) hw hm ?_ ?_
  · refine Cv.genAt [5, 3, 4] [] (Cv.fold [24, 25, 26, 27, 28, 29, 30, 31, 32, 33, 34, 35, 36, 37, 38, 39, 40, 41, 42, 43, 44, 45, 46, 47, 48, 49, 50, 51, 52, 53, 54, 55] 1 [] (by exact Nat.le_refl _) (by exact Nat.le_of_ble_eq_true rfl) (by rfl) (by cbv) ?_)
    intro js
    refine ⟨(_, _, _), ?_, js, rfl⟩
    exact ⟨0, rfl, by ((try simp only [nc] at *); omega), hs0.symm, ho0.symm, fun j hj => by ((try simp only [nc] at *); omega)⟩
  · rintro ⟨k, s, o⟩ js ⟨i, hk, hi, hs, ho, hj⟩
    have hsi := hsr i hj
    have hoi := hor i
    cbv
    rw [en]
    generalize hz4 : vc .lss k nI = z4
    cases z4
    rotate_left
    · rw [qc, lss_true] at hz4
      have hlt : i < n := by ((try simp only [nc] at *); omega)
      have hti : vtoN k = i := by rw [hk]; exact hto i
      have hinR : 0 ≤ k ∧ k < (n : Int) := by ((try simp only [nc] at *); omega)
      obtain ⟨k1, hk1⟩ : ∃ k1 : Int, k1 = ((i + 1 : Nat) : Int) := ⟨_, rfl⟩
      have ek : vb .add .i64 k 1 = k1 := by rw [qb, add_i64 (by ((try simp only [nc] at *); omega)) (by ((try simp only [nc] at *); omega))]; ((try simp only [nc] at *); omega)
      have hmu : ∀ _ : Unit, n - k1.toNat < n - k.toNat := fun _ => by ((try simp only [nc] at *); omega)
      have hx := hge i
      have hss1 := hss i
      have hos1 := hosu i
      cbv
      rw [hti, hadd0, hvgd, hvln]
      refine ⟨⟨hinR⟩, ⟨hlt⟩, ⟨hlt⟩, ?_⟩
      generalize hxi : l.getD i 0 = x at *
      generalize hz5 : vc .gtr x 11 = z5
      cases z5
      rotate_left
      · rw [qc, gtr_true] at hz5
        cbv
        have := hnone (.inr (.inr (.inr ⟨i, hlt, by ((try simp only [nc] at *); omega)⟩)))
        subst this
        exact ⟨rfl, trivial⟩
      rw [qc, gtr_false] at hz5
      have hpx := hpr (w := x) (by ((try simp only [nc] at *); omega))
      have hpz1 := hpz x
      have hpw := hpwd x
      obtain ⟨s1, hs1⟩ : ∃ s1, s1 = SM (i + 1) := ⟨_, rfl⟩
      have es : vb .add .i64 s (PW x) = s1 := by
        rw [qb, hs1, hss1, ← hs]
        exact wrap_i64 (by ((try simp only [nc] at *); omega)) (by ((try simp only [nc] at *); omega))
      have hjj : ∀ j, j < i + 1 → l.getD j 0 ≤ 11 := fun j hj2 => by
        by_cases e : j = i
        · subst e; ((try simp only [nc] at *); omega)
        · exact hj j (by ((try simp only [nc] at *); omega))
      cbv
      rw [hti, hadd0, hvgd, hvln, hxi]
      refine ⟨⟨hinR⟩, ⟨hlt⟩, ⟨hlt⟩, ?_⟩
      generalize hz7 : vc .gtr x 0 = z7
      have eo : vb .add .i64 o 1 = o + 1 := by rw [qb, add_i64 (by ((try simp only [nc] at *); omega)) (by ((try simp only [nc] at *); omega))]
      obtain ⟨o1, ho1⟩ : ∃ o1, o1 = o + 1 := ⟨_, rfl⟩
      rw [← ho1] at eo
      cases z7
      · rw [qc, gtr_false] at hz7
        have hx0 : x = 0 := by ((try simp only [nc] at *); omega)
        have hs1s : s = s1 := by rw [hs1, hss1, hpz1 (by ((try simp only [nc] at *); omega)), hs]; ((try simp only [nc] at *); omega)
        rw [if_neg (by ((try simp only [nc] at *); omega))] at hos1
        have e01 : vc .eql x 1 = false := by rw [qc, eql_false]; ((try simp only [nc] at *); omega)
        cbv
        rw [hti, hadd0, hvgd, hvln, hxi, e01]
        refine ⟨⟨hinR⟩, ⟨hlt⟩, ⟨hlt⟩, ?_⟩
        cbv
        rw [ek]
        refine Cv.fold [24, 25, 26, 27, 28, 29, 30, 31, 32, 33, 34, 35, 36, 37, 38, 39, 40, 41, 42, 43, 44, 45, 46, 47, 48, 49, 50, 51, 52, 53, 54, 55] 1 [] (by exact Nat.le_refl _) (by exact Nat.le_of_ble_eq_true rfl) (by rfl) (by cbv) ?_
        intro js
        refine ⟨(_, _, _), ?_, js, rfl⟩
        exact ⟨⟨i + 1, hk1, hlt, hs1s.trans hs1, by ((try simp only [nc] at *); omega), hjj⟩, hmu ()⟩
      rw [qc, gtr_true] at hz7
      have esb : vb .sub .u8 x 1 = x - 1 := by rw [qb]; exact wrap_u8 (by ((try simp only [nc] at *); omega)) (by ((try simp only [nc] at *); omega))
      have ewx : vw .u64 (x - 1) = x - 1 := by rw [qw]; exact wrap_u64 (by ((try simp only [nc] at *); omega)) (by ((try simp only [nc] at *); omega))
      have hpw := hpw hz7 (by ((try simp only [nc] at *); omega))
      obtain ⟨xm, hxm⟩ : ∃ xm, xm = x - 1 := ⟨_, rfl⟩
      rw [← hxm] at esb ewx hpw
      cbv
      rw [hti, hadd0, hvgd, hvln, hxi, esb, ewx, hpw, es]
      refine ⟨⟨hinR⟩, ⟨hlt⟩, ⟨hlt⟩, ⟨by ((try simp only [nc] at *); omega)⟩, ⟨hinR⟩, ⟨hlt⟩, ⟨hlt⟩, ?_⟩
      generalize hz6 : vc .eql x 1 = z6
      cases z6
      · rw [qc, eql_false] at hz6
        rw [if_neg hz6] at hos1
        cbv
        rw [ek]
        refine Cv.fold [24, 25, 26, 27, 28, 29, 30, 31, 32, 33, 34, 35, 36, 37, 38, 39, 40, 41, 42, 43, 44, 45, 46, 47, 48, 49, 50, 51, 52, 53, 54, 55] 1 [] (by exact Nat.le_refl _) (by exact Nat.le_of_ble_eq_true rfl) (by rfl) (by cbv) ?_
        intro js
        refine ⟨(_, _, _), ?_, js, rfl⟩
        exact ⟨⟨i + 1, hk1, hlt, hs1, by ((try simp only [nc] at *); omega), hjj⟩, hmu ()⟩
      · rw [qc, eql_true] at hz6
        rw [if_pos hz6] at hos1
        cbv
        rw [ek, eo]
        refine Cv.fold [24, 25, 26, 27, 28, 29, 30, 31, 32, 33, 34, 35, 36, 37, 38, 39, 40, 41, 42, 43, 44, 45, 46, 47, 48, 49, 50, 51, 52, 53, 54, 55] 1 [] (by exact Nat.le_refl _) (by exact Nat.le_of_ble_eq_true rfl) (by rfl) (by cbv) ?_
        intro js
        refine ⟨(_, _, _), ?_, js, rfl⟩
        exact ⟨⟨i + 1, hk1, hlt, hs1, by ((try simp only [nc] at *); omega), hjj⟩, hmu ()⟩
    · rw [qc, lss_false] at hz4
      obtain rfl : i = n := by ((try simp only [nc] at *); omega)
      obtain ⟨he1, he2⟩ := hends (fun j h => hj j h)
      rw [← hs, ← ho] at he1 he2
      clear hends hnone
      cbv
      refine loop_fam (α := Int) [56, 57, 58, 59, 60, 61, 62, 63, 64, 65, 66, 67, 68, 69] [] (fun q => [(6, .int .i64 q)]) (fun _ => [])
        (fun q => ∃ K : Nat, q = K ∧ 1 ≤ K ∧ K ≤ 12 ∧ ∀ K' : Nat, 1 ≤ K' → K' < K → s = 2 ^ K' → ¬ 2 ≤ o) (fun q => 12 - q.toNat) hw hm ?_ ?_
      · refine Cv.genAt [6] [] (Cv.fold [56, 57, 58, 59, 60, 61, 62, 63, 64, 65, 66, 67, 68, 69] 1 [] (by exact Nat.le_refl _) (by exact Nat.le_of_ble_eq_true rfl) (by rfl) (by cbv) ?_)
        intro js
        refine ⟨_, ?_, js, rfl⟩
        exact ⟨1, rfl, by omega, by omega, fun K' h1 h2 => by omega⟩
      · rintro q js2 ⟨K, hq, hK1, hK2, hKs⟩
        obtain ⟨q1, hq1⟩ : ∃ q1 : Int, q1 = ((K + 1 : Nat) : Int) := ⟨_, rfl⟩
        have eq1 : vb .add .i64 q 1 = q1 := by rw [qb, add_i64 (by ((try simp only [nc] at *); omega)) (by ((try simp only [nc] at *); omega))]; ((try simp only [nc] at *); omega)
        have hmu : ∀ _ : Unit, K < 12 → 12 - q1.toNat < 12 - q.toNat := fun _ => by ((try simp only [nc] at *); omega)
        have ewq : vw .u64 q = q := by rw [qw]; exact wrap_u64 (by ((try simp only [nc] at *); omega)) (by ((try simp only [nc] at *); omega))
        obtain ⟨pq, hpq⟩ : ∃ pq : Int, pq = 2 ^ K := ⟨_, rfl⟩
        have ehl : vb .shl .i64 1 q = pq := by rw [qb, hq, one_shl62 (by omega) (by omega), hpq]; rfl
        have hq0 : 0 ≤ q := by ((try simp only [nc] at *); omega)
        have hKs1 : ¬ (s = pq ∧ 2 ≤ o) → ∀ K' : Nat, 1 ≤ K' → K' < K + 1 → s = 2 ^ K' → ¬ 2 ≤ o := fun h K' h1 h2 h3 h4 => by
          by_cases e : K' = K
          · subst e; exact h ⟨by rw [hpq]; exact h3, h4⟩
          · exact hKs K' h1 (by omega) h3 h4
        cbv
        generalize hz5 : vc .leq q 11 = z5
        cases z5
        · rw [qc, leq_false] at hz5
          have := he2 (fun K' h1 h2 => hKs K' h1 (by ((try simp only [nc] at *); omega)))
          subst this
          cbv
        rw [qc, leq_true] at hz5
        have hK11 : K ≤ 11 := by ((try simp only [nc] at *); omega)
        cbv
        rw [ewq, ehl]
        refine ⟨⟨hq0⟩, ?_⟩
        generalize hz6 : vc .eql s pq = z6
        cases z6
        · rw [qc, eql_false] at hz6
          cbv
          rw [eq1]
          refine Cv.fold [56, 57, 58, 59, 60, 61, 62, 63, 64, 65, 66, 67, 68, 69] 1 [] (by exact Nat.le_refl _) (by exact Nat.le_of_ble_eq_true rfl) (by rfl) (by cbv) ?_
          intro js
          refine ⟨_, ?_, js, rfl⟩
          exact ⟨⟨K + 1, hq1, by omega, by omega, hKs1 (fun h => hz6 h.1)⟩, hmu () (by omega)⟩
        rw [qc, eql_true] at hz6
        cbv
        generalize hz7 : vc .geq o 2 = z7
        cases z7
        · rw [qc, geq_false] at hz7
          cbv
          rw [eq1]
          refine Cv.fold [56, 57, 58, 59, 60, 61, 62, 63, 64, 65, 66, 67, 68, 69] 1 [] (by exact Nat.le_refl _) (by exact Nat.le_of_ble_eq_true rfl) (by rfl) (by cbv) ?_
          intro js
          refine ⟨_, ?_, js, rfl⟩
          exact ⟨⟨K + 1, hq1, by omega, by omega, hKs1 (fun h => hz7 h.2)⟩, hmu () (by omega)⟩
        rw [qc, geq_true] at hz7
        have := he1 K hK11 (by rw [hz6, hpq]) hz7
        have hmq : m = q := by rw [this, hq]
        subst hmq
        cbv
end Go.Proofs.Ytaaklikigccdfaa
namespace Go.Proofs.Ytaaklikigccdfaa
open Go Go.Sx Go.Proofs
/-! balerref09.Words. -/
set_option maxRecDepth 10000
set_option maxHeartbeats 40000000
theorem refwords9_con (l : List Int) (cap : Nat) (M : Nat) (hl : ∀ c ∈ l, isU8 c) (hW : Wt l M) :
    Con Try.prog 83 [.slice 0 .z 1 l.length cap] [.ro .u8 l] (fun v H R => v = .slice 1 .z 2 l.length l.length ∧ H = [.ro .u8 l, .arr 181 2 l.length (fun m => [.int .u64 (xA l m), .int .i64 (nA l M m)])] ∧ R = []) := by
  have hsz := refbits9_con l cap M hl (by have := hW.2.1; omega) (.inl ⟨M, hW, rfl⟩)
  refine con_gen (con_cut 2 (by simp) (con_drop (con_walk hmix fn83 ?_)))
  intro vb vc vw vtoN vofN vaddN vsubN vmaxI vminI vcutN vgd vst vln vrep vsub vonto vsplice vstrEq vbyteV vnotB veqB hw qb qc qw qtoN qofN qaddN qsubN qmaxI qminI qcutN qgd qst qln qrep qsub qonto qsplice qstrEq qbyteV qnotB qeqB
  have hm := hmix; generalize Try.prog = P at *
  have hM1 := hW.pos
  have hM11 := hW.2.2.2.2.2.2
  have hn2 := hW.1
  have hn256 := hW.2.1
  have hA0 := wA_zero l
  have hB0 := wB_zero l M
  have hgs0 := gs_one l hl
  have hgss := gs_step l
  have hgsn := fun L hL => @gs_next l L hL
  have hgsr := fun L i h1 h2 h3 => @gs_range l M hW L i h1 h2 h3
  have hgd := fun L i h1 h2 => @gs_dvd l M hW L h1 h2 i
  have hAs := fun L i h => @wA_skip l L i hl h
  have hBs := fun L i h => @wB_skip l M L i hl h
  have hAp := fun L i h1 h2 h3 => @wA_put l L i h1 h2 h3
  have hBp := fun L i h1 h2 h3 => @wB_put l M L i h1 h2 h3
  have hAn := wA_next l
  have hBn := wB_next l M
  have hAa := wA_all hW
  have hBa := wB_all hW
  have hge := getD_u8 hl
  clear hW
  generalize gs l = GS at *
  generalize wA l = WA at *
  generalize wB l M = WB at *
  generalize xA l = XA at *
  generalize nA l M = NA at *
  obtain ⟨mI, hmI⟩ : ∃ mI : Int, mI = M := ⟨_, rfl⟩
  rw [← hmI] at hsz
  generalize hn : l.length = n at *
  have hto : ∀ i : Nat, vtoN (i : Int) = i := fun i => by simp only [qtoN, Int.toNat_natCast]
  have hadd0 : ∀ i, vaddN 0 i = i := fun i => by simp only [qaddN, Nat.zero_add]
  have hvln : vln l = n := by simp only [qln, hn]
  have hvgd : ∀ l i, vgd l i = l.getD i 0 := fun l i => by simp only [qgd]
  obtain ⟨nI, hnI⟩ : ∃ nI : Int, nI = n := ⟨_, rfl⟩
  have en : vofN n = nI := by rw [hnI, qofN]
  have etn : vtoN nI = n := by rw [hnI]; exact hto n
  cbv
  refine call_con (ρ := [(0, .z)]) hsz ⟨by rfl, by rfl, by rfl, by cbv; exact ⟨⟨⟨by omega, fun i _ => by rw [Nat.zero_add]⟩⟩, trivial⟩⟩ ?_
  rintro v H R js ⟨rfl, rfl, rfl⟩
  cbv
  rw [en, etn]
  refine ⟨⟨by ((try simp only [nc] at *); omega)⟩, ⟨by ((try simp only [nc] at *); omega)⟩, ⟨by ((try simp only [nc] at *); omega), by ((try simp only [nc] at *); omega)⟩, ⟨by ((try simp only [nc] at *); omega)⟩, ?_⟩
  refine WX.cv (Cv.arrEq 1 (fun m => [.int .u64 (WA 1 0 m), .int .i64 (WB 1 0 m)]) (by rfl) (by intro i; rw [hA0, hB0]; rfl) (Cv.here ?_))
  obtain ⟨m1, hm1⟩ : ∃ m1 : Int, m1 = mI + 1 := ⟨_, rfl⟩
  have em1 : vb .add .i64 mI 1 = m1 := by (try simp only [nc] at *); rw [qb, add_i64 (by omega) (by omega)]; omega
  refine loop_fam (α := Int × Int × (Nat → Int) × (Nat → Int)) ([7] ++ [13, 14, 15, 16, 17, 18, 19, 20, 21, 22, 23, 24, 25, 26, 27, 28, 29, 30, 31, 32, 33, 34, 35, 36, 37, 38, 39, 40, 41, 42, 43, 44, 45, 46, 47, 48, 49, 50, 51]) [] (fun (k, x, _, _) => [(6, .int .i64 k), (5, .int .i64 x)]) (fun (_, _, A, B) => [(1, .arr 181 2 n (fun m => [.int .u64 (A m), .int .i64 (B m)]))])
    (fun (k, x, A, B) => ∃ L : Nat, k = L ∧ 1 ≤ L ∧ L ≤ M + 2 ∧ x = GS L 0 ∧ A = WA L 0 ∧ B = WB L 0) (fun (k, _) => M + 2 - k.toNat) hw hm ?_ ?_
  · refine Cv.genAt [6, 5] [] (Cv.fold ([7] ++ [13, 14, 15, 16, 17, 18, 19, 20, 21, 22, 23, 24, 25, 26, 27, 28, 29, 30, 31, 32, 33, 34, 35, 36, 37, 38, 39, 40, 41, 42, 43, 44, 45, 46, 47, 48, 49, 50, 51]) 2 [] (by exact Nat.le_refl _) (by exact Nat.le_of_ble_eq_true rfl) (by rfl) (by cbv) ?_)
    intro js
    refine ⟨(_, _, _, _), ?_, js, rfl⟩
    exact ⟨1, rfl, by omega, by omega, hgs0.symm, rfl, rfl⟩
  · rintro ⟨k, x, A, B⟩ js ⟨L, hk, hL1, hL2, hx, hA, hB⟩
    cbv
    rw [em1]
    generalize hz1 : vc .leq k m1 = z1
    cases z1
    rotate_left
    · rw [qc, leq_true] at hz1
      have hlt : L ≤ M + 1 := by ((try simp only [nc] at *); omega)
      have hgn := hgsn L hL1
      have hAn1 := hAn L
      have hBn1 := hBn L
      obtain ⟨k1, hk1⟩ : ∃ k1 : Int, k1 = ((L + 1 : Nat) : Int) := ⟨_, rfl⟩
      have ek : vb .add .i64 k 1 = k1 := by (try simp only [nc] at *); rw [qb, add_i64 (by omega) (by omega)]; omega
      have hmu : ∀ _ : Unit, M + 2 - k1.toNat < M + 2 - k.toNat := fun _ => by ((try simp only [nc] at *); omega)
      cbv
      refine loop_fam (α := Int × Int × (Nat → Int) × (Nat → Int)) [19, 20, 21, 22, 23, 24, 25, 26, 27, 28, 29, 30, 31, 32, 33, 34, 35, 36, 37, 38, 39, 40, 41, 42, 43, 44, 45, 46, 47, 48, 49, 50, 51] [] (fun (q, x, _, _) => [(7, .int .i64 q), (5, .int .i64 x)]) (fun (_, _, A, B) => [(1, .arr 181 2 n (fun m => [.int .u64 (A m), .int .i64 (B m)]))])
        (fun (q, x, A, B) => ∃ i : Nat, q = i ∧ i ≤ n ∧ x = GS L i ∧ A = WA L i ∧ B = WB L i) (fun (q, _) => n - q.toNat) hw hm ?_ ?_
      · refine Cv.genAt [7, 5] [] (Cv.fold [19, 20, 21, 22, 23, 24, 25, 26, 27, 28, 29, 30, 31, 32, 33, 34, 35, 36, 37, 38, 39, 40, 41, 42, 43, 44, 45, 46, 47, 48, 49, 50, 51] 2 [] (by exact Nat.le_refl _) (by exact Nat.le_of_ble_eq_true rfl) (by rfl) (by cbv) ?_)
        intro js
        refine ⟨(_, _, _, _), ?_, js, rfl⟩
        exact ⟨0, rfl, by omega, hx, hA, hB⟩
      · rintro ⟨q, x, A, B⟩ js2 ⟨i, hq, hi, hx, hA, hB⟩
        cbv
        rw [en]
        generalize hz2 : vc .lss q nI = z2
        cases z2
        · rw [qc, lss_false] at hz2
          obtain rfl : i = n := by ((try simp only [nc] at *); omega)
          cbv
          rw [ek]
          refine Cv.fold ([7] ++ [13, 14, 15, 16, 17, 18, 19, 20, 21, 22, 23, 24, 25, 26, 27, 28, 29, 30, 31, 32, 33, 34, 35, 36, 37, 38, 39, 40, 41, 42, 43, 44, 45, 46, 47, 48, 49, 50, 51]) 2 [] (by exact Nat.le_refl _) (by exact Nat.le_of_ble_eq_true rfl) (by rfl) (by cbv) ?_
          intro js
          refine ⟨(_, _, _, _), ?_, js, rfl⟩
          exact ⟨⟨L + 1, hk1, by omega, by omega, by rw [hx, hgn], by rw [hA, hAn1], by rw [hB, hBn1]⟩, hmu ()⟩
        · rw [qc, lss_true] at hz2
          have hlt2 : i < n := by ((try simp only [nc] at *); omega)
          have hti : vtoN q = i := by rw [hq]; exact hto i
          have hinR : 0 ≤ q ∧ q < (n : Int) := by ((try simp only [nc] at *); omega)
          obtain ⟨q1, hq1⟩ : ∃ q1 : Int, q1 = ((i + 1 : Nat) : Int) := ⟨_, rfl⟩
          have eq1 : vb .add .i64 q 1 = q1 := by (try simp only [nc] at *); rw [qb, add_i64 (by omega) (by omega)]; omega
          have hmu2 : ∀ _ : Unit, n - q1.toNat < n - q.toNat := fun _ => by ((try simp only [nc] at *); omega)
          have hx0 := hge i
          have hgs1 := hgss L i
          have hr1 := hgsr L i hL1 hlt (by omega)
          have hr2 := hgsr L (i + 1) hL1 hlt (by omega)
          have hdv := hgd L i hL1 hlt
          have hAs1 := hAs L i
          have hBs1 := hBs L i
          have hAp1 := hAp L i hlt2 hL1
          have hBp1 := hBp L i hlt2 hL1
          have hp11 : (2 : Int) ^ M ≤ 2 ^ 11 := pow_up hM11
          cbv
          rw [hti, hadd0, hvgd, hvln]
          refine ⟨⟨hinR⟩, ⟨by omega⟩, ⟨by omega⟩, ?_⟩
          generalize hxi : l.getD i 0 = y at *
          have ew : vw .i64 y = y := by rw [qw]; exact wrap_i64 (by omega) (by omega)
          rw [ew]
          generalize hz3 : vc .eql y k = z3
          cases z3
          · rw [qc, eql_false] at hz3
            have hne : y ≠ (L : Int) := by ((try simp only [nc] at *); omega)
            rw [if_neg hne] at hgs1
            cbv
            rw [eq1]
            refine Cv.fold [19, 20, 21, 22, 23, 24, 25, 26, 27, 28, 29, 30, 31, 32, 33, 34, 35, 36, 37, 38, 39, 40, 41, 42, 43, 44, 45, 46, 47, 48, 49, 50, 51] 2 [] (by exact Nat.le_refl _) (by exact Nat.le_of_ble_eq_true rfl) (by rfl) (by cbv) ?_
            intro js
            refine ⟨(_, _, _, _), ?_, js, rfl⟩
            exact ⟨⟨i + 1, hq1, hlt2, by rw [hx, hgs1]; omega, by rw [hA, hAs1 hne], by rw [hB, hBs1 hne]⟩, hmu2 ()⟩
          · rw [qc, eql_true] at hz3
            have hyL : y = (L : Int) := by (try simp only [nc] at *); omega
            rw [if_pos hyL] at hgs1
            have hAp2 := hAp1 hyL
            have hBp2 := hBp1 hyL
            obtain ⟨k0, hk0⟩ : ∃ k0 : Int, k0 = ((L - 1 : Nat) : Int) := ⟨_, rfl⟩
            have ek0 : vb .sub .i64 k 1 = k0 := by (try simp only [nc] at *); rw [qb, sub_i64 (by omega) (by omega)]; omega
            have ew0 : vw .u64 k0 = k0 := by (try simp only [nc] at *); rw [qw]; exact wrap_u64 (by omega) (by omega)
            obtain ⟨x1, hx1⟩ : ∃ x1 : Int, x1 = GS L i / 2 ^ (L - 1) := ⟨_, rfl⟩
            have hpL : (0 : Int) < 2 ^ (L - 1) := p2 _
            have hpL2 : (2 : Int) ^ (L - 1) ≤ 2 ^ 11 := pow_up (by omega)
            have hx1r : 0 ≤ x1 ∧ x1 ≤ 2048 := by
              rw [hx1]
              have a1 := Int.ediv_nonneg hr1.1 (Int.le_of_lt hpL)
              have a2 := Int.ediv_le_self (2 ^ (L - 1)) hr1.1
              constructor
              · exact a1
              · (try simp only [nc] at *); omega
            have es : vb .shr .i64 x k0 = x1 := by
              rw [qb, shr_eq (by show k0 ≤ 64; (try simp only [nc] at *); omega), hx1, hx, hk0, Int.toNat_natCast]
            have ew1 : vw .u64 x1 = x1 := by rw [qw]; exact wrap_u64 (by omega) (by omega)
            obtain ⟨n1, hn1⟩ : ∃ n1 : Int, n1 = (M : Int) + 1 - L := ⟨_, rfl⟩
            have en1 : vb .sub .i64 m1 k = n1 := by (try simp only [nc] at *); rw [qb, sub_i64 (by omega) (by omega)]; omega
            have hk00 : 0 ≤ k0 := by ((try simp only [nc] at *); omega)
            rw [← hx1] at hAp2
            rw [← hn1] at hBp2
            obtain ⟨s1, hs1⟩ : ∃ s1 : Int, s1 = 2 ^ (L - 1) := ⟨_, rfl⟩
            have esl : vb .shl .i64 1 k0 = s1 := by
              rw [qb, one_shl62 (by omega) (by omega), hs1, hk0, Int.toNat_natCast]
            obtain ⟨x2, hx2⟩ : ∃ x2 : Int, x2 = GS L (i + 1) := ⟨_, rfl⟩
            have ex2 : vb .add .i64 x s1 = x2 := by
              have e : x + s1 = x2 := by rw [hx2, hgs1, hx, hs1]
              rw [qb, add_i64 (by (try simp only [nc] at *); omega) (by (try simp only [nc] at *); omega), e]
            rw [← hA] at hAp2
            rw [← hB] at hBp2
            cbv
            rw [ek0, ew0, es, ew1, em1, en1, hti, updF_2_0, updF_2_1, esl, ex2, eq1]
            refine ⟨⟨hk00⟩, ⟨hinR⟩, ⟨hlt2⟩, ⟨hlt2⟩, ⟨hk00⟩, ?_⟩
            refine Cv.fold [19, 20, 21, 22, 23, 24, 25, 26, 27, 28, 29, 30, 31, 32, 33, 34, 35, 36, 37, 38, 39, 40, 41, 42, 43, 44, 45, 46, 47, 48, 49, 50, 51] 2 [] (by exact Nat.le_refl _) (by exact Nat.le_of_ble_eq_true rfl) (by rfl) (by cbv) ?_
            intro js
            refine ⟨(_, _, _, _), ?_, js, rfl⟩
            exact ⟨⟨i + 1, hq1, hlt2, hx2, hAp2.symm, hBp2.symm⟩, hmu2 ()⟩
    · rw [qc, leq_false] at hz1
      have hL : L = M + 2 := by ((try simp only [nc] at *); omega)
      subst hL
      rw [hAa] at hA
      rw [hBa] at hB
      cbv
      exact ⟨by rw [hA, hB], trivial⟩
end Go.Proofs.Ytaaklikigccdfaa
namespace Go.Proofs.Ytaaklikigccdfaa
open Go Go.Sx Go.Proofs
/-! balerref09.whole. -/
set_option maxRecDepth 10000
set_option maxHeartbeats 40000000
theorem OkE.bound {t l : List Int} (h : OkE t l) : smA t ≤ 2048 ∧ ∃ k : Nat, k ≤ 10 ∧ 2 ^ (blen (smA t)).toNat - smA t = 2 ^ k ∧ l = t ++ [(k : Int) + 1] := by
  obtain ⟨h1, h2, h3, ⟨k, h4, rfl⟩, M, hW⟩ := h
  have hl : (t ++ [(k : Int) + 1]).length = t.length + 1 := by simp
  have hg : (t ++ [(k : Int) + 1]).getD t.length 0 = (k : Int) + 1 := by simp [List.getD_eq_getElem?_getD]
  have h5 := hW.2.2.2.1 t.length (by omega)
  rw [hg] at h5
  have h6 := hW.2.2.2.2.2.1
  rw [hl] at h6
  simp only [sm] at h6
  have h7 : sm (t ++ [(k : Int) + 1]) t.length = smA t := sm_ext (fun i hi => by rw [List.getD_eq_getElem?_getD, List.getElem?_append_left hi, ← List.getD_eq_getElem?_getD])
  have h8 := pw_range (w := (t ++ [(k : Int) + 1]).getD t.length 0) (by rw [hg]; omega)
  have h9 : (2 : Int) ^ M ≤ 2 ^ 11 := pow_up hW.2.2.2.2.2.2
  exact ⟨by omega, k, by omega, h4, rfl⟩
theorem refwhole_con (t : List Int) (cap : Nat) (hl : ∀ c ∈ t, isU8 c) :
    Con Try.prog 19 [.slice 0 .z 1 t.length cap] [.ro .u8 t] (fun v H R => R = [] ∧ ((∃ l c', OkE t l ∧ H = [.ro .u8 t, .buf 5 .u8 l c'] ∧ v = .tup [.slice 1 .z 1 l.length c', .bool true]) ∨
      ((∀ l, ¬ OkE t l) ∧ ((H = [.ro .u8 t] ∧ v = .tup [.val (.slice none 0 0), .bool false]) ∨ ∃ l' c' n', H = [.ro .u8 t, .buf 5 .u8 l' c'] ∧ v = .tup [.slice 1 .z 1 n' c', .bool false])))) := by
  have hsz : ∀ (w : Int) (c' : Nat) (m : Int), t.length ≤ 255 → isU8 w → Msz (t ++ [w]) m → Con Try.prog 27 [.slice 0 .z 1 (t.length + 1) c'] [.ro .u8 (t ++ [w])] (fun v H R => v = .int .i64 m ∧ H = [.ro .u8 (t ++ [w])] ∧ R = []) := by
    intro w c' m hn hw hm
    have := refbits9_con (t ++ [w]) c' m (fun c hc => (List.mem_append.1 hc).elim (fun h => hl c h) (fun h => by rw [List.mem_singleton.1 h]; exact hw)) (by rw [List.length_append]; simp; omega) hm
    rw [List.length_append] at this
    exact this
  have hex := fun w => Msz.ex (t ++ [w])
  have hpos : ∀ w m, Msz (t ++ [w]) m → (0 < m ↔ ∃ M, Wt (t ++ [w]) M) := by
    intro w m hm
    rcases hm with ⟨M, hW, rfl⟩ | ⟨h, rfl⟩
    · exact ⟨fun _ => ⟨M, hW⟩, fun _ => by have := hW.pos; omega⟩
    · exact ⟨fun h' => by omega, fun ⟨M, h'⟩ => (h M h').elim⟩
  have hok : ∀ l, OkE t l → t.length ≤ 255 ∧ (∀ i, i < t.length → t.getD i 0 ≤ 11) ∧ 0 < sm t t.length ∧ sm t t.length ≤ 2048 ∧ (∃ k : Nat, k ≤ 10 ∧ 2 ^ (blen (sm t t.length)).toNat - sm t t.length = 2 ^ k ∧ l = t ++ [(k : Int) + 1]) ∧ ∃ M, Wt l M := by
    intro l h
    exact ⟨h.1, h.2.1, h.2.2.1, h.bound.1, h.bound.2, h.2.2.2.2⟩
  have hko : ∀ (k M : Nat), t.length ≤ 255 → (∀ i, i < t.length → t.getD i 0 ≤ 11) → 0 < sm t t.length → 2 ^ (blen (sm t t.length)).toNat - sm t t.length = 2 ^ k → Wt (t ++ [(k : Int) + 1]) M → OkE t (t ++ [(k : Int) + 1]) := by
    intro k M h1 h2 h3 h4 h5
    exact ⟨h1, h2, h3, ⟨k, h4, rfl⟩, M, h5⟩
  have hbo := fun (x : Int) (k : Nat) h0 h1 => @blen_of x k h0 h1
  refine con_gen (con_picks (con_drop (con_walk hmix fn19 ?_)))
  intro vb vc vw vtoN vofN vaddN vsubN vmaxI vminI vcutN vgd vst vln vrep vsub vonto vsplice vstrEq vbyteV vnotB veqB hw qb qc qw qtoN qofN qaddN qsubN qmaxI qminI qcutN qgd qst qln qrep qsub qonto qsplice qstrEq qbyteV qnotB qeqB
  have hm := hmix; generalize Try.prog = P at *
  have hge := getD_u8 hl
  have hsr := fun i => @sm_range t i
  have hs0 : sm t 0 = 0 := rfl
  have hss : ∀ i, sm t (i + 1) = sm t i + pw (t.getD i 0) := fun _ => rfl
  have hpr := @pw_range
  have hpz : ∀ w : Int, w ≤ 0 → pw w = 0 := fun w h => by unfold pw; rw [if_pos h]
  have hpwd : ∀ w : Int, 0 < w → w ≤ 11 → vb .shl .i64 1 (w - 1) = pw w := fun w h0 h1 => by rw [qb, one_shl62 (by omega) (by omega)]; unfold pw; rw [if_neg (by omega)]
  generalize sm t = SM at *
  generalize pw = PW at *
  generalize blen = BL at *
  generalize OkE t = OK at *
  generalize hl0 : t.length = n at *
  have htl1 : ∀ w : Int, (t ++ [w]).length = n + 1 := fun w => by rw [List.length_append, hl0]; rfl
  have hto : ∀ i : Nat, vtoN (i : Int) = i := fun i => by simp only [qtoN, Int.toNat_natCast]
  have hadd0 : ∀ i, vaddN 0 i = i := fun i => by simp only [qaddN, Nat.zero_add]
  have hvln : vln t = n := by simp only [qln, hl0]
  have hvgd : ∀ i, vgd t i = t.getD i 0 := fun i => by simp only [qgd]
  obtain ⟨nI, hnI⟩ : ∃ nI : Int, nI = n := ⟨_, rfl⟩
  have en : vofN n = nI := by rw [hnI, qofN]
  cbv
  simp only [nc] at *
  rw [en]
  generalize hz1 : vc .gtr nI 255 = z1
  cases z1
  rotate_left
  · rw [qc, gtr_true] at hz1
    cbv
    exact ⟨[0], .tup [.val (.slice none 0 0), .bool false], [.ro .u8 t], rfl, rfl, rfl, rfl, ⟨rfl, trivial⟩, rfl, .inr ⟨fun l h => by have := (hok l h).1; ((try simp only [nc] at *); omega), .inl ⟨rfl, rfl⟩⟩⟩
  rw [qc, gtr_false] at hz1
  cbv
  refine loop_fam (α := Int × Int) [12, 13, 14, 15, 16, 17, 18, 19, 20, 21, 22, 23, 24, 25, 26, 27, 28, 29, 30, 31, 32, 33, 34, 35, 36] [] (fun (k, s) => [(5, .int .i64 k), (4, .int .i64 s)]) (fun _ => [])
    (fun (k, s) => ∃ i : Nat, k = i ∧ i ≤ n ∧ s = SM i ∧ ∀ j, j < i → t.getD j 0 ≤ 11) (fun (k, _) => n - k.toNat) hw hm ?_ ?_
  · refine Cv.genAt [5, 4] [] (Cv.fold [12, 13, 14, 15, 16, 17, 18, 19, 20, 21, 22, 23, 24, 25, 26, 27, 28, 29, 30, 31, 32, 33, 34, 35, 36] 1 [] (by exact Nat.le_refl _) (by exact Nat.le_of_ble_eq_true rfl) (by rfl) (by cbv) ?_)
    intro js
    refine ⟨(_, _), ?_, js, rfl⟩
    exact ⟨0, rfl, by ((try simp only [nc] at *); omega), hs0.symm, fun j hj => by ((try simp only [nc] at *); omega)⟩
  · rintro ⟨k, s⟩ js ⟨i, hk, hi, hs, hj⟩
    have hsi := hsr i hj
    cbv
    rw [en]
    generalize hz4 : vc .lss k nI = z4
    cases z4
    rotate_left
    · rw [qc, lss_true] at hz4
      have hlt : i < n := by ((try simp only [nc] at *); omega)
      have hti : vtoN k = i := by rw [hk]; exact hto i
      have hinR : 0 ≤ k ∧ k < (n : Int) := by ((try simp only [nc] at *); omega)
      obtain ⟨k1, hk1⟩ : ∃ k1 : Int, k1 = ((i + 1 : Nat) : Int) := ⟨_, rfl⟩
      have ek : vb .add .i64 k 1 = k1 := by rw [qb, add_i64 (by ((try simp only [nc] at *); omega)) (by ((try simp only [nc] at *); omega))]; ((try simp only [nc] at *); omega)
      have hmu : ∀ _ : Unit, n - k1.toNat < n - k.toNat := fun _ => by ((try simp only [nc] at *); omega)
      have hx := hge i
      have hss1 := hss i
      cbv
      rw [hti, hadd0, hvgd, hvln]
      refine ⟨⟨hinR⟩, ⟨hlt⟩, ⟨hlt⟩, ?_⟩
      generalize hxi : t.getD i 0 = x at *
      generalize hz5 : vc .gtr x 11 = z5
      cases z5
      rotate_left
      · rw [qc, gtr_true] at hz5
        cbv
        exact ⟨[0], .tup [.val (.slice none 0 0), .bool false], [.ro .u8 t], rfl, rfl, rfl, rfl, ⟨rfl, trivial⟩, rfl, .inr ⟨fun l h => by have := (hok l h).2.1 i hlt; rw [hxi] at this; ((try simp only [nc] at *); omega), .inl ⟨rfl, rfl⟩⟩⟩
      rw [qc, gtr_false] at hz5
      have hpx := hpr (w := x) (by ((try simp only [nc] at *); omega))
      have hpz1 := hpz x
      have hpw := hpwd x
      obtain ⟨s1, hs1⟩ : ∃ s1, s1 = SM (i + 1) := ⟨_, rfl⟩
      have es : vb .add .i64 s (PW x) = s1 := by
        rw [qb, hs1, hss1, ← hs]
        exact wrap_i64 (by ((try simp only [nc] at *); omega)) (by ((try simp only [nc] at *); omega))
      have hjj : ∀ j, j < i + 1 → t.getD j 0 ≤ 11 := fun j hj2 => by
        by_cases e : j = i
        · subst e; ((try simp only [nc] at *); omega)
        · exact hj j (by ((try simp only [nc] at *); omega))
      cbv
      rw [hti, hadd0, hvgd, hvln, hxi]
      refine ⟨⟨hinR⟩, ⟨hlt⟩, ⟨hlt⟩, ?_⟩
      generalize hz7 : vc .gtr x 0 = z7
      cases z7
      · rw [qc, gtr_false] at hz7
        have hs1s : s = s1 := by rw [hs1, hss1, hpz1 (by ((try simp only [nc] at *); omega)), hs]; ((try simp only [nc] at *); omega)
        cbv
        rw [ek]
        refine Cv.fold [12, 13, 14, 15, 16, 17, 18, 19, 20, 21, 22, 23, 24, 25, 26, 27, 28, 29, 30, 31, 32, 33, 34, 35, 36] 1 [] (by exact Nat.le_refl _) (by exact Nat.le_of_ble_eq_true rfl) (by rfl) (by cbv) ?_
        intro js
        refine ⟨(_, _), ?_, js, rfl⟩
        exact ⟨⟨i + 1, hk1, hlt, hs1s.trans hs1, hjj⟩, hmu ()⟩
      rw [qc, gtr_true] at hz7
      have esb : vb .sub .u8 x 1 = x - 1 := by rw [qb]; exact wrap_u8 (by ((try simp only [nc] at *); omega)) (by ((try simp only [nc] at *); omega))
      have ewx : vw .u64 (x - 1) = x - 1 := by rw [qw]; exact wrap_u64 (by ((try simp only [nc] at *); omega)) (by ((try simp only [nc] at *); omega))
      have hpw := hpw hz7 (by ((try simp only [nc] at *); omega))
      obtain ⟨xm, hxm⟩ : ∃ xm, xm = x - 1 := ⟨_, rfl⟩
      rw [← hxm] at esb ewx hpw
      cbv
      rw [hti, hadd0, hvgd, hvln, hxi, esb, ewx, hpw, es, ek]
      refine ⟨⟨hinR⟩, ⟨hlt⟩, ⟨hlt⟩, ⟨by ((try simp only [nc] at *); omega)⟩, ?_⟩
      refine Cv.fold [12, 13, 14, 15, 16, 17, 18, 19, 20, 21, 22, 23, 24, 25, 26, 27, 28, 29, 30, 31, 32, 33, 34, 35, 36] 1 [] (by exact Nat.le_refl _) (by exact Nat.le_of_ble_eq_true rfl) (by rfl) (by cbv) ?_
      intro js
      refine ⟨(_, _), ?_, js, rfl⟩
      exact ⟨⟨i + 1, hk1, hlt, hs1, hjj⟩, hmu ()⟩
    · rw [qc, lss_false] at hz4
      obtain rfl : i = n := by ((try simp only [nc] at *); omega)
      cbv
      generalize hz5 : vc .eql s 0 = z5
      cases z5
      rotate_left
      · rw [qc, eql_true] at hz5
        cbv
        exact ⟨[0], .tup [.val (.slice none 0 0), .bool false], [.ro .u8 t], rfl, rfl, rfl, rfl, ⟨rfl, trivial⟩, rfl, .inr ⟨fun l h => by have := (hok l h).2.2.1; ((try simp only [nc] at *); omega), .inl ⟨rfl, rfl⟩⟩⟩
      rw [qc, eql_false] at hz5
      cbv
      generalize hz6 : vc .gtr s 4096 = z6
      cases z6
      rotate_left
      · rw [qc, gtr_true] at hz6
        cbv
        exact ⟨[0], .tup [.val (.slice none 0 0), .bool false], [.ro .u8 t], rfl, rfl, rfl, rfl, ⟨rfl, trivial⟩, rfl, .inr ⟨fun l h => by have := (hok l h).2.2.2.1; ((try simp only [nc] at *); omega), .inl ⟨rfl, rfl⟩⟩⟩
      rw [qc, gtr_false] at hz6
      have hs12 : 0 < s ∧ s ≤ 4096 := by ((try simp only [nc] at *); omega)
      clear hsr hss hpr hpz hpwd hge
      cbv
      refine loop_fam (α := Int) [43, 44, 45, 46, 47] [] (fun a => [(6, .int .i64 a)]) (fun _ => [])
        (fun a => ∃ j : Nat, a = 2 ^ j ∧ j ≤ 13 ∧ (j = 0 ∨ (2 : Int) ^ (j - 1) ≤ s)) (fun a => 8192 - a.toNat) hw hm ?_ ?_
      · refine Cv.genAt [6] [] (Cv.fold [43, 44, 45, 46, 47] 1 [] (by exact Nat.le_refl _) (by exact Nat.le_of_ble_eq_true rfl) (by rfl) (by cbv) ?_)
        intro js
        refine ⟨_, ?_, js, rfl⟩
        exact ⟨0, rfl, by omega, .inl rfl⟩
      · rintro a js2 ⟨j, ha, hj13, hja⟩
        have ha0 : 0 < a := by rw [ha]; exact p2 j
        cbv
        generalize hz7 : vc .leq a s = z7
        cases z7
        rotate_left
        · rw [qc, leq_true] at hz7
          obtain ⟨a2, ha2⟩ : ∃ a2, a2 = a * 2 := ⟨_, rfl⟩
          have ea : vb .mul .i64 a 2 = a2 := by rw [qb, mul_i64 (by omega) (by omega)]; exact ha2.symm
          have hj12 : j + 1 ≤ 13 := by
            apply Classical.byContradiction
            intro h
            have : (2 : Int) ^ 13 ≤ 2 ^ j := pow_up (by omega)
            rw [← ha] at this
            omega
          have hmu : ∀ _ : Unit, 8192 - a2.toNat < 8192 - a.toNat := fun _ => by omega
          cbv
          rw [ea]
          refine Cv.fold [43, 44, 45, 46, 47] 1 [] (by exact Nat.le_refl _) (by exact Nat.le_of_ble_eq_true rfl) (by rfl) (by cbv) ?_
          intro js
          refine ⟨_, ?_, js, rfl⟩
          exact ⟨⟨j + 1, by rw [ha2, ha, p2s], hj12, .inr (by rw [Nat.add_sub_cancel, ← ha]; exact hz7)⟩, hmu ()⟩
        · rw [qc, leq_false] at hz7
          have hj1 : 1 ≤ j := by
            rcases Nat.eq_zero_or_pos j with h | h
            · subst h; rw [ha] at hz7; omega
            · exact h
          have hbl : BL s = j := by
            rcases hja with h | h
            · omega
            · have := hbo s (j - 1) h (by rw [show j - 1 + 1 = j by omega, ← ha]; omega)
              rw [this]; ((try simp only [nc] at *); omega)
          have hKj : (BL s).toNat = j := by rw [hbl]; exact Int.toNat_natCast j
          rw [← hs, hKj, ← ha] at hok hko
          obtain ⟨re, hre⟩ : ∃ re : Int, re = a - s := ⟨_, rfl⟩
          have ha13 : a ≤ 8192 := by
            have : (2 : Int) ^ j ≤ 2 ^ 13 := pow_up hj13
            omega
          have esb : vb .sub .i64 a s = re := by rw [qb, sub_i64 (by omega) (by omega)]; exact hre.symm
          rw [← hre] at hok hko
          cbv
          refine loop_fam (α := Int) [48, 49, 50, 51, 52, 53, 54, 55, 56, 57, 58, 59, 60, 61, 62, 63, 64, 65, 66] [] (fun w => [(7, .int .i64 w)]) (fun _ => [])
            (fun w => ∃ k : Nat, w = (k : Int) + 1 ∧ k ≤ 12 ∧ ∀ k' : Nat, k' < k → re ≠ 2 ^ k') (fun w => 13 - w.toNat) hw hm ?_ ?_
          · refine Cv.genAt [7] [] (Cv.fold [48, 49, 50, 51, 52, 53, 54, 55, 56, 57, 58, 59, 60, 61, 62, 63, 64, 65, 66] 1 [] (by exact Nat.le_refl _) (by exact Nat.le_of_ble_eq_true rfl) (by rfl) (by cbv) ?_)
            intro js
            refine ⟨_, ?_, js, rfl⟩
            exact ⟨0, rfl, by omega, fun k' h => by omega⟩
          · rintro w js3 ⟨k2, hw2, hk12, hkn⟩
            cbv
            generalize hz8 : vc .leq w 12 = z8
            cases z8
            · rw [qc, leq_false] at hz8
              cbv
              exact ⟨[0], .tup [.val (.slice none 0 0), .bool false], [.ro .u8 t], rfl, rfl, rfl, rfl, ⟨rfl, trivial⟩, rfl, .inr ⟨fun l h => by
                obtain ⟨_, _, _, _, ⟨k', h3, h4, _⟩, _⟩ := hok l h
                exact hkn k' (by ((try simp only [nc] at *); omega)) h4, .inl ⟨rfl, rfl⟩⟩⟩
            rw [qc, leq_true] at hz8
            have hk11 : k2 ≤ 11 := by ((try simp only [nc] at *); omega)
            obtain ⟨w1, hw1⟩ : ∃ w1 : Int, w1 = ((k2 : Nat) : Int) := ⟨_, rfl⟩
            have ew1 : vb .sub .i64 w 1 = w1 := by rw [qb, sub_i64 (by ((try simp only [nc] at *); omega)) (by ((try simp only [nc] at *); omega))]; ((try simp only [nc] at *); omega)
            have eww : vw .u64 w1 = w1 := by rw [qw]; exact wrap_u64 (by ((try simp only [nc] at *); omega)) (by ((try simp only [nc] at *); omega))
            obtain ⟨pk, hpk⟩ : ∃ pk : Int, pk = 2 ^ k2 := ⟨_, rfl⟩
            have ehl : vb .shl .i64 1 w1 = pk := by rw [qb, hw1, one_shl62 (by omega) (by omega), hpk]; rfl
            obtain ⟨wn, hwn⟩ : ∃ wn : Int, wn = ((k2 + 1 : Nat) : Int) + 1 := ⟨_, rfl⟩
            have ewn : vb .add .i64 w 1 = wn := by rw [qb, add_i64 (by ((try simp only [nc] at *); omega)) (by ((try simp only [nc] at *); omega))]; ((try simp only [nc] at *); omega)
            have hmu : ∀ _ : Unit, 13 - wn.toNat < 13 - w.toNat := fun _ => by ((try simp only [nc] at *); omega)
            cbv
            rw [esb, ew1, eww, ehl]
            refine ⟨⟨by ((try simp only [nc] at *); omega)⟩, ?_⟩
            generalize hz9 : vc .eql re pk = z9
            cases z9
            · rw [qc, eql_false] at hz9
              cbv
              rw [ewn]
              refine Cv.fold [48, 49, 50, 51, 52, 53, 54, 55, 56, 57, 58, 59, 60, 61, 62, 63, 64, 65, 66] 1 [] (by exact Nat.le_refl _) (by exact Nat.le_of_ble_eq_true rfl) (by rfl) (by cbv) ?_
              intro js
              refine ⟨_, ?_, js, rfl⟩
              exact ⟨⟨k2 + 1, hwn, by omega, fun k' h => by
                by_cases e : k' = k2
                · subst e; rw [← hpk]; exact hz9
                · exact hkn k' (by omega)⟩, hmu ()⟩
            rw [qc, eql_true] at hz9
            have hw8 : isU8 w := by unfold isU8; ((try simp only [nc] at *); omega)
            have ewu : vw .u8 w = w := by rw [qw]; exact wrap_u8 (by ((try simp only [nc] at *); omega)) (by ((try simp only [nc] at *); omega))
            obtain ⟨m, hm0⟩ := hex w
            have hszw := fun c' => hsz w c' m (by ((try simp only [nc] at *); omega)) hw8 hm0
            have hposw := hpos w m hm0
            have hkow := fun M h => hko k2 M (by ((try simp only [nc] at *); omega)) hj (by ((try simp only [nc] at *); omega)) (by rw [hz9, hpk]) h
            rw [← hw2] at hkow
            have hoku : ∀ l, OK l → l = t ++ [w] ∧ 0 < m := fun l h => by
              obtain ⟨_, _, _, _, ⟨k', _, h4, h5⟩, M, h6⟩ := hok l h
              have : k' = k2 := by
                have h7 : (2 : Int) ^ k' = 2 ^ k2 := by rw [← h4, hz9, hpk]
                exact pow_inj h7
              subst this
              rw [← hw2] at h5
              subst h5
              exact ⟨rfl, hposw.2 ⟨M, h6⟩⟩
            obtain ⟨L2, hL2⟩ : ∃ L2, L2 = t ++ [w] := ⟨_, rfl⟩
            have hont1 : vonto [] 0 (vsub t 0 i) = t := by rw [qsub, qonto]; subst hl0; simp
            have hont : vonto t i (vsub [w] 0 1) = L2 := by rw [hL2, qsub, qonto]; subst hl0; simp
            have hL2n : L2.length = i + 1 := by rw [hL2]; exact htl1 w
            rw [← hL2] at hszw hposw hkow hoku
            have hadd1 : vaddN i 1 = i + 1 := by rw [qaddN]
            obtain ⟨i1, hi1⟩ : ∃ i1, i1 = i + 1 := ⟨_, rfl⟩
            rw [← hi1] at hszw hadd1 hL2n
            have hln1 : vln [w] = 1 := by rw [qln]; rfl
            have hln0 : vln [] = 0 := by rw [qln]; rfl
            have hi1b : i1 * 1 ≤ 140737488355328 := by ((try simp only [nc] at *); omega)
            have hib : i * 1 ≤ 140737488355328 := by ((try simp only [nc] at *); omega)
            cbv
            rw [hadd0, hln0]
            refine ⟨⟨by rw [hvln]; exact Nat.le_refl _⟩, ⟨Nat.le_refl _⟩, ⟨Nat.le_refl _⟩, ⟨hib⟩, ?_⟩
            intro c1 js4 hle
            cbv
            rw [ewu, hont1, hadd0, hadd0, hln1, hvln]
            refine ⟨⟨Nat.le_refl _⟩, ⟨Nat.le_refl _⟩, ⟨Nat.le_refl _⟩, ⟨by rw [hadd1]; exact hi1b⟩, ?_⟩
            intro c2 js5 hle2
            cbv
            rw [hont, hadd1]
            refine call_con (ρ := [(1, .z)]) (hszw c2) ⟨by rfl, by rfl, by rfl, by cbv; exact ⟨view_refl _, trivial⟩⟩ ?_
            rintro v H R js6 ⟨rfl, rfl, rfl⟩
            cbv
            generalize hz10 : vc .gtr m 0 = z10
            cases z10
            · rw [qc, gtr_false] at hz10
              exact ⟨[0, 1], .tup [.slice 1 .z 1 i1 c2, .bool false], [.ro .u8 t, .buf 5 .u8 L2 c2], rfl, rfl, rfl, rfl, ⟨rfl, rfl, trivial⟩, rfl, .inr ⟨fun l h => hz10 (hoku l h).2, .inr ⟨L2, c2, i1, rfl, rfl⟩⟩⟩
            · rw [qc, gtr_true] at hz10
              obtain ⟨M, hM⟩ := hposw.1 hz10
              subst hL2n
              exact ⟨[0, 1], .tup [.slice 1 .z 1 L2.length c2, .bool true], [.ro .u8 t, .buf 5 .u8 L2 c2], rfl, rfl, rfl, rfl, ⟨rfl, rfl, trivial⟩, rfl, .inl ⟨L2, c2, hkow M hM, rfl, rfl⟩⟩
end Go.Proofs.Ytaaklikigccdfaa
namespace Go.Proofs.Ytaaklikigccdfaa
open Go Go.Sx Go.Proofs
/-! balerref07.value. -/
set_option maxRecDepth 10000
set_option maxHeartbeats 40000000
theorem refrd (b : List Int) (pos cap bl : Nat) (n : Int) (hbl : bl = b.length) (hby : ∀ x ∈ b, isByte x) (hl : b.length ≤ 2 ^ 50) (hp : pos ≤ 8 * b.length) (hn : 0 ≤ n ∧ n ≤ 56) :
    Con Try.prog 75 [.ptr 0 .z 2 0, .int .i64 n] [.one 156 [.slice 1 .z 1 bl cap, .int .i64 pos], .ro .u8 b]
      (fun v H R => R = [] ∧ ∃ x e pos2, v = .tup [.int .u64 x, .int .i64 e] ∧ pos2 ≤ 8 * b.length ∧
        ((e = 0 ∧ rdN b pos n.toNat = some x ∧ pos2 = pos + n.toNat ∧ 0 ≤ x ∧ x < 2 ^ n.toNat) ∨ (e = 10 ∧ rdN b pos n.toNat = none)) ∧
        H = [.one 156 [.slice 1 .z 1 bl cap, .int .i64 (pos2 : Nat)], .ro .u8 b]) := by
  subst hbl
  refine (refbitsB_con b cap pos n hby hl hp).mono ?_
  rintro v H R ⟨rfl, rfl, rfl⟩
  refine ⟨rfl, _, _, _, rfl, ?_, ?_, rfl⟩
  · unfold rbP
    split
    · omega
    · exact hp
  · unfold rbX rbE rbP rdN
    by_cases hpn : pos + n.toNat ≤ 8 * b.length
    · have hp' : (pos : Int) + n ≤ 8 * b.length := by omega
      have hb := bval_bound (bitL b) (bitL_bit b) pos n.toNat
      have hc : 0 ≤ n ∧ n ≤ 56 ∧ (pos : Int) + n ≤ 8 * b.length := ⟨hn.1, hn.2, hp'⟩
      simp only [if_pos hc, if_pos hn, if_pos hp', if_pos hpn]
      exact .inl ⟨trivial, trivial, trivial, hb⟩
    · have hp' : ¬ (pos : Int) + n ≤ 8 * b.length := by omega
      have hc : ¬ (0 ≤ n ∧ n ≤ 56 ∧ (pos : Int) + n ≤ 8 * b.length) := fun h => hp' h.2.2
      simp only [if_neg hc, if_pos hn, if_neg hp', if_neg hpn]
      exact .inr ⟨trivial, trivial⟩
theorem refvalue_con (b : List Int) (pos cap bl : Nat) (mo : Int) (hbl : bl = b.length) (hby : ∀ x ∈ b, isByte x) (hl : b.length ≤ 2 ^ 50) (hp : pos ≤ 8 * b.length) (hmo : 2 ≤ mo ∧ mo ≤ 4097) :
    Con Try.prog 76 [.ptr 0 .z 2 0, .int .i64 mo] [.one 156 [.slice 1 .z 1 bl cap, .int .i64 pos], .ro .u8 b]
      (fun v H R => R = [] ∧ ∃ x e pos2, v = .tup [.int .i64 x, .int .i64 e] ∧ pos2 ≤ 8 * b.length ∧
        ((e = 0 ∧ (∃ v1, rdN b pos (blen mo - 1).toNat = some v1 ∧ valR b pos mo v1 = some (x, pos2)) ∧ 0 ≤ x ∧ x ≤ mo) ∨
         (e = 10 ∧ (rdN b pos (blen mo - 1).toNat = none ∨ ∃ v1, rdN b pos (blen mo - 1).toNat = some v1 ∧ valR b pos mo v1 = none))) ∧
        H = [.one 156 [.slice 1 .z 1 bl cap, .int .i64 (pos2 : Nat)], .ro .u8 b]) := by
  have hwid := width_con mo (by omega)
  have hmax := blen_max (x := mo) (by omega) (by omega)
  obtain ⟨mk, hmk, hmk1, hmk2⟩ := blen_spec (x := mo) (by omega)
  have hvA := fun v => @valR_low b pos mo v
  have hvB := fun v => @valR_none b pos mo v
  have hvC := fun v top => @valR_some b pos mo v top
  have hrd := fun n h => refrd b pos cap bl n hbl hby hl hp h
  have hrd1 := fun pos h => refrd b pos cap bl 1 hbl hby hl h (by omega)
  refine con_gen (con_cut 2 (by simp) (con_drop (con_walk hmix fn76 ?_)))
  intro vb vc vw vtoN vofN vaddN vsubN vmaxI vminI vcutN vgd vst vln vrep vsub vonto vsplice vstrEq vbyteV vnotB veqB hw qb qc qw qtoN qofN qaddN qsubN qmaxI qminI qcutN qgd qst qln qrep qsub qonto qsplice qstrEq qbyteV qnotB qeqB
  have hm := hmix; generalize Try.prog = P at *
  have h00 : vc .neq 0 0 = false := by rw [qc]; rfl
  have h100 : vc .neq 10 0 = true := by rw [qc]; rfl
  generalize valR b pos mo = VR at *
  generalize blen mo = mb at *
  have ec : vw .u64 mb = mb := by rw [qw]; exact wrap_u64 (by omega) (by omega)
  have ed : vb .shl .i64 1 mb = 2 ^ mb.toNat := by rw [qb, one_shl62 (by omega) (by omega)]
  have ee : vb .sub .i64 mb 1 = mb - 1 := by rw [qb, sub_i64 (by omega) (by omega)]
  have ee2 : vw .u64 (mb - 1) = mb - 1 := by rw [qw]; exact wrap_u64 (by omega) (by omega)
  have ef : vb .shl .i64 1 (mb - 1) = 2 ^ (mb - 1).toNat := by rw [qb, one_shl62 (by omega) (by omega)]
  have hpm : (2 : Int) ^ mb.toNat = 2 ^ (mk + 1) := by rw [hmk]; rfl
  have hmbt : (mb - 1).toNat = mk := by omega
  have hmbt2 : mb.toNat = mk + 1 := by omega
  have hpw2 : (2 : Int) ^ (mk + 1) = 2 * 2 ^ mk := by rw [Int.pow_succ]; omega
  rw [hpm, hpw2] at ed
  rw [hmbt] at ef
  simp only [hmbt, hmbt2, hpw2] at hvA hvB hvC ⊢
  rw [hpw2] at hmk2
  have hqq : (2 : Int) ^ mk ≤ 2 ^ 12 := by exact_mod_cast Nat.pow_le_pow_right (by omega : 0 < 2) (by omega : mk ≤ 12)
  have hrdm := hrd (mb - 1) (by omega)
  rw [hmbt] at hrdm
  have esh : ∀ y : Int, 0 ≤ y → y < 2 → vb .shl .i64 y (mb - 1) = y * 2 ^ mk := by
    intro y h0 h1
    have hcase : y = 0 ∨ y = 1 := by omega
    rcases hcase with rfl | rfl
    · rw [qb]; show IntKind.i64.wrap (0 * 2 ^ _) = _; rw [Int.zero_mul, Int.zero_mul]; exact wrap_i64 (by omega) (by omega)
    · rw [ef, Int.one_mul]
  generalize hq : (2 : Int) ^ mk = q at *
  have eg : vb .sub .i64 (2 * q) 1 = 2 * q - 1 := by rw [qb, sub_i64 (by omega) (by omega)]
  have eh : vb .sub .i64 (2 * q - 1) mo = 2 * q - 1 - mo := by rw [qb, sub_i64 (by omega) (by omega)]
  obtain ⟨tt, htt⟩ : ∃ tt : Int, tt = 2 * q - 1 - mo := ⟨_, rfl⟩
  rw [← htt] at eh
  simp only [← htt] at hvA hvB hvC
  generalize hq21 : 2 * q - 1 = q21 at *
  generalize hq2 : 2 * q = q2 at *
  generalize hmb1 : mb - 1 = mb1 at *
  obtain ⟨p0, hp0⟩ : ∃ p0 : Int, p0 = (pos : Int) := ⟨_, rfl⟩
  rw [← hp0] at hrdm ⊢
  cbv
  refine call_con (ρ := []) hwid ⟨by rfl, by rfl, by rfl, by cbv⟩ ?_
  rintro v H R js3 ⟨rfl, rfl, rfl⟩
  cbv
  rw [ec, ed, eg, eh, ee]
  refine ⟨⟨by omega⟩, ?_⟩
  refine call_con (ρ := [(0, .z), (1, .z)]) hrdm ⟨by rfl, by rfl, by rfl, by cbv; exact ⟨view_refl _, trivial⟩⟩ ?_
  rintro v H R js4 ⟨rfl, v1, e1, pos3, rfl, hp3, hcase, rfl⟩
  cbv
  rcases hcase with ⟨rfl, hrd1', hpos3, hv0, hv1⟩ | ⟨rfl, hrd1'⟩
  rotate_left
  · rw [h100]
    cbv
    exact ⟨_, _, pos3, rfl, hp3, .inr ⟨rfl, .inl hrd1'⟩, rfl⟩
  have ev1 : vw .i64 v1 = v1 := by rw [qw]; exact wrap_i64 (by omega) (by omega)
  rw [h00]
  cbv
  rw [ev1]
  generalize hz7 : vc .lss v1 tt = z7
  cases z7
  rotate_left
  · rw [qc, lss_true] at hz7
    cbv
    rw [ev1]
    exact ⟨_, _, pos3, rfl, hp3, .inl ⟨rfl, ⟨v1, hrd1', by rw [hvA _ (by omega), hpos3]⟩, by omega, by omega⟩, rfl⟩
  rw [qc, lss_false] at hz7
  have hrd2 := hrd1 pos3 hp3
  cbv
  refine call_con (ρ := [(0, .z), (1, .z)]) hrd2 ⟨by rfl, by rfl, by rfl, by cbv; exact ⟨view_refl _, trivial⟩⟩ ?_
  rintro v H R js5 ⟨rfl, top, e2, pos4, rfl, hp4, hcase2, rfl⟩
  cbv
  rcases hcase2 with ⟨rfl, hrd3, hpos4, ht0, ht1⟩ | ⟨rfl, hrd3⟩
  rotate_left
  · rw [h100]
    cbv
    exact ⟨_, _, pos4, rfl, hp4, .inr ⟨rfl, .inr ⟨v1, hrd1', hvB _ (by omega) (by rw [← hpos3]; exact hrd3)⟩⟩, rfl⟩
  have ht2 : top < 2 := ht1
  have et1 : vw .i64 top = top := by rw [qw]; exact wrap_i64 (by omega) (by omega)
  have esht := esh top ht0 ht2
  have hvr := hvC v1 top (by omega) (by rw [← hpos3]; exact hrd3)
  rw [h00]
  cbv
  rw [ev1, et1, ee, ee2, esht]
  have htop : top = 0 ∨ top = 1 := by omega
  rcases htop with rfl | rfl
  · have ea : vb .add .i64 v1 (0 * q) = v1 := by rw [qb, Int.zero_mul, add_i64 (by omega) (by omega), Int.add_zero]
    rw [if_neg (by decide)] at hvr
    rw [ea, ef]
    have hz8 : vc .geq v1 q = false := by rw [qc, geq_false]; omega
    refine ⟨⟨by omega⟩, ⟨by omega⟩, ?_⟩
    rw [hz8]
    cbv
    exact ⟨v1, 0, pos4, rfl, hp4, .inl ⟨rfl, ⟨v1, hrd1', hvr.trans (by rw [show pos + (mk + 1) = pos4 by have : Int.toNat 1 = 1 := rfl; omega])⟩, by omega, by omega⟩, rfl⟩
  · have ea : vb .add .i64 v1 (1 * q) = v1 + q := by rw [qb, Int.one_mul, add_i64 (by omega) (by omega)]
    rw [if_pos rfl] at hvr
    obtain ⟨x, hx⟩ : ∃ x, x = v1 + q := ⟨_, rfl⟩
    rw [← hx] at ea
    have eb : vb .sub .i64 x tt = x - tt := by rw [qb, sub_i64 (by omega) (by omega)]
    obtain ⟨y, hy⟩ : ∃ y, y = x - tt := ⟨_, rfl⟩
    rw [← hy] at eb
    rw [ea, ef]
    have hz8 : vc .geq x q = true := by rw [qc, geq_true]; omega
    refine ⟨⟨by omega⟩, ⟨by omega⟩, ?_⟩
    rw [hz8]
    cbv
    rw [eb]
    exact ⟨y, 0, pos4, rfl, hp4, .inl ⟨rfl, ⟨v1, hrd1', hvr.trans (by rw [show v1 + (q - tt) = y by omega, show pos + (mk + 1) = pos4 by have : Int.toNat 1 = 1 := rfl; omega])⟩, by omega, by omega⟩, rfl⟩
end Go.Proofs.Ytaaklikigccdfaa
namespace Go.Proofs.Ytaaklikigccdfaa
open Go Go.Sx Go.Proofs
/-! balerref07.Read. -/
set_option maxRecDepth 10000
set_option maxHeartbeats 40000000
theorem refread7_con (b : List Int) (cap : Nat) (ml ms : Int) (hby : ∀ x ∈ b, isByte x) (hl : b.length ≤ 140737488355328) (hml : -9223372036854775808 ≤ ml ∧ ml ≤ 9223372036854775807) (hms : -9223372036854775808 ≤ ms ∧ ms ≤ 9223372036854775807)
    (cs0 : List Int) (log0 used0 e0 : Int) (hR : readR b ml ms = (cs0, log0, used0, e0)) :
    Con Try.prog 47 [.slice 0 .z 1 b.length cap, .int .i64 ml, .int .i64 ms] [.ro .u8 b] (fun v H R => R = [] ∧
      ((e0 ≠ 0 ∧ H = [.ro .u8 b] ∧ v = .tup [.val (.slice none 0 0), .int .i64 0, .int .i64 0, .int .i64 e0]) ∨
        (e0 = 0 ∧ ∃ c, H = [.ro .u8 b, .buf 125 .i16 cs0 c] ∧ v = .tup [.slice 1 .z 1 cs0.length c, .int .i64 log0, .int .i64 used0, .int .i64 0]))) := by
  have hrd := @refrd b
  have hrv := @refvalue_con b
  have hparts := refparts_con
  refine con_gen (con_picks (con_drop (con_walk hmix fn47 ?_)))
  intro vb vc vw vtoN vofN vaddN vsubN vmaxI vminI vcutN vgd vst vln vrep vsub vonto vsplice vstrEq vbyteV vnotB veqB hw qb qc qw qtoN qofN qaddN qsubN qmaxI qminI qcutN qgd qst qln qrep qsub qonto qsplice qstrEq qbyteV qnotB qeqB
  have hm := hmix; generalize Try.prog = P at *
  have hR : (if ml < 5 ∨ ml > 12 ∨ ms < 0 ∨ ms > 255 then ([], 0, 0, 2)
      else match rdN b 0 4 with
        | none => ([], 0, 0, 10)
        | some x => if x + 5 > ml then ([], 0, 0, 11) else
          if (readS b ms 600 false (2 ^ (x + 5).toNat) [] 4).1 ≠ 0 then ([], 0, 0, (readS b ms 600 false (2 ^ (x + 5).toNat) [] 4).1)
          else ((readS b ms 600 false (2 ^ (x + 5).toNat) [] 4).2.1, x + 5, ((readS b ms 600 false (2 ^ (x + 5).toNat) [] 4).2.2 + 7 : Int) / 8, 0)) = (cs0, log0, used0, e0) := hR
  generalize hbl : b.length = bl at *
  cbv
  generalize h1 : vc .lss ml 5 = z1
  cases z1
  rotate_left
  · rw [qc, lss_true] at h1
    have he0 : e0 = 2 := by
      rw [if_pos (by omega)] at hR; simp only [Prod.mk.injEq] at hR; exact hR.2.2.2.symm
    subst he0
    cbv
    exact ⟨[0], .tup [.val (.slice none 0 0), .lit .i64 0, .lit .i64 0, .lit .i64 2], [.ro .u8 b], rfl, rfl, rfl, rfl, ⟨rfl, trivial⟩, rfl, .inl ⟨by decide, rfl, rfl⟩⟩
  rw [qc, lss_false] at h1
  cbv
  generalize h2 : vc .gtr ml 12 = z2
  cases z2
  rotate_left
  · rw [qc, gtr_true] at h2
    have he0 : e0 = 2 := by
      rw [if_pos (by omega)] at hR; simp only [Prod.mk.injEq] at hR; exact hR.2.2.2.symm
    subst he0
    cbv
    exact ⟨[0], .tup [.val (.slice none 0 0), .lit .i64 0, .lit .i64 0, .lit .i64 2], [.ro .u8 b], rfl, rfl, rfl, rfl, ⟨rfl, trivial⟩, rfl, .inl ⟨by decide, rfl, rfl⟩⟩
  rw [qc, gtr_false] at h2
  cbv
  generalize h3 : vc .lss ms 0 = z3
  cases z3
  rotate_left
  · rw [qc, lss_true] at h3
    have he0 : e0 = 2 := by
      rw [if_pos (by omega)] at hR; simp only [Prod.mk.injEq] at hR; exact hR.2.2.2.symm
    subst he0
    cbv
    exact ⟨[0], .tup [.val (.slice none 0 0), .lit .i64 0, .lit .i64 0, .lit .i64 2], [.ro .u8 b], rfl, rfl, rfl, rfl, ⟨rfl, trivial⟩, rfl, .inl ⟨by decide, rfl, rfl⟩⟩
  rw [qc, lss_false] at h3
  cbv
  generalize h4 : vc .gtr ms 255 = z4
  cases z4
  rotate_left
  · rw [qc, gtr_true] at h4
    have he0 : e0 = 2 := by
      rw [if_pos (by omega)] at hR; simp only [Prod.mk.injEq] at hR; exact hR.2.2.2.symm
    subst he0
    cbv
    exact ⟨[0], .tup [.val (.slice none 0 0), .lit .i64 0, .lit .i64 0, .lit .i64 2], [.ro .u8 b], rfl, rfl, rfl, rfl, ⟨rfl, trivial⟩, rfl, .inl ⟨by decide, rfl, rfl⟩⟩
  rw [qc, gtr_false] at h4
  rw [if_neg (by omega)] at hR
  have hrd4 := hrd 0 cap bl 4 rfl hby (by omega) (by omega) (by omega)
  simp only [nc] at hrd4
  rw [show ((0 : Nat) : Int) = 0 from rfl] at hrd4
  have h00 : vc .neq 0 0 = false := by rw [qc]; rfl
  have h100 : vc .neq 10 0 = true := by rw [qc]; rfl
  cbv
  refine call_con (ρ := [(1, .z), (0, .z)]) hrd4 ⟨by rfl, by rfl, by rfl, by cbv; exact ⟨view_refl _, trivial⟩⟩ ?_
  rintro v H R js2 ⟨rfl, x, e, pos2, rfl, hp2, hcase, rfl⟩
  cbv
  rcases hcase with ⟨rfl, hrd1, hpos2, hx0, hx1⟩ | ⟨rfl, hrd1⟩
  rotate_left
  · rw [h100]
    have he0 : e0 = 10 := by
      have hrd1 : rdN b 0 4 = none := hrd1
      rw [hrd1] at hR; simp only [Prod.mk.injEq] at hR; exact hR.2.2.2.symm
    subst he0
    cbv
    exact ⟨[0], .tup [.val (.slice none 0 0), .lit .i64 0, .lit .i64 0, .int .i64 10], [.ro .u8 b], rfl, rfl, rfl, rfl, ⟨rfl, trivial⟩, rfl, .inl ⟨by decide, rfl, rfl⟩⟩
  have hrd1 : rdN b 0 4 = some x := hrd1
  have hx1 : x < 16 := hx1
  rw [hrd1] at hR
  simp only at hR
  rw [h00]
  have ew1 : vw .i64 x = x := by rw [qw]; exact wrap_i64 (by omega) (by omega)
  have ea1 : vb .add .i64 x 5 = x + 5 := by rw [qb, add_i64 (by omega) (by omega)]
  obtain ⟨lg, hlg⟩ : ∃ lg : Int, lg = x + 5 := ⟨_, rfl⟩
  rw [← hlg] at ea1 hR
  cbv
  rw [ew1, ea1]
  generalize h5 : vc .gtr lg ml = z5
  cases z5
  rotate_left
  · rw [qc, gtr_true] at h5
    have he0 : e0 = 11 := by
      rw [if_pos (by omega)] at hR; simp only [Prod.mk.injEq] at hR; exact hR.2.2.2.symm
    subst he0
    cbv
    exact ⟨[0], .tup [.val (.slice none 0 0), .lit .i64 0, .lit .i64 0, .lit .i64 11], [.ro .u8 b], rfl, rfl, rfl, rfl, ⟨rfl, trivial⟩, rfl, .inl ⟨by decide, rfl, rfl⟩⟩
  rw [qc, gtr_false] at h5
  rw [if_neg (by omega)] at hR
  have e2 : vw .u64 lg = lg := by rw [qw]; exact wrap_u64 (by omega) (by omega)
  have e3 : vb .shl .i64 1 lg = 2 ^ lg.toNat := by rw [qb, one_shl (by omega) (by omega)]
  have hpl := pow_log (log := lg) (by omega)
  generalize hpw : (2 : Int) ^ lg.toNat = pw at *
  have hfuel : ∃ RES, readS b ms 600 false pw [] 4 = RES := ⟨_, rfl⟩
  obtain ⟨RES, hRES⟩ := hfuel
  rw [hRES] at hR
  have hbad : ∀ E : Int, E ≠ 0 → RES = (E, [], 0) → e0 = E := by
    intro E hE h
    rw [h] at hR
    simp only at hR
    rw [if_pos hE] at hR
    simp only [Prod.mk.injEq] at hR
    exact hR.2.2.2.symm
  have hgood : ∀ cs pos, RES = (0, cs, pos) → cs0 = cs ∧ log0 = lg ∧ used0 = ((pos : Int) + 7) / 8 ∧ e0 = 0 := by
    intro cs pos h
    rw [h] at hR
    simp only at hR
    rw [if_neg (by decide)] at hR
    simp only [Prod.mk.injEq] at hR
    exact ⟨hR.1.symm, hR.2.1.symm, hR.2.2.1.symm, hR.2.2.2.symm⟩
  have hpos4 : pos2 = 4 := hpos2
  clear hR hrd4 hrd1 hpos2
  cbv
  rw [e2, e3]
  refine ⟨⟨by omega⟩, ?_⟩
  refine WX.cv (Cv.nilT 6 125 .i16 (by rfl) (by cbv; try exact ⟨fun _ => rfl, trivial⟩) (Cv.here ?_))
  cbv
  refine loop_fam (α := Nat × Int × List Int × Nat × Nat × Nat × Int) ([13, 14, 15, 16, 17, 18] ++ [53, 54, 55, 56, 57, 58, 59, 60, 61, 62, 63, 64, 65, 66, 67, 68, 69, 70, 71, 72, 73, 74, 75, 76, 77, 78, 79, 80, 81, 82, 83, 84, 85, 86, 87, 88, 89, 90, 91, 92, 93, 94, 95, 96, 97, 98, 99, 100, 101, 102, 103, 104, 105, 106, 107, 108, 109, 110]) [2]
    (fun (f, left, cs, rl, c, pos, pI) => [(12, .int .i64 left), (6, .slice 2 .z 1 rl c)])
    (fun (f, left, cs, rl, c, pos, pI) => [(1, .one 156 [.slice 0 .z 1 bl cap, .int .i64 pI]), (2, .buf 125 .i16 cs c)])
    (fun (f, left, cs, rl, c, pos, pI) => readS b ms f false left cs pos = RES ∧ 600 ≤ f + 2 * cs.length ∧ cs.length ≤ 256 ∧ rl = cs.length ∧ pI = (pos : Nat) ∧ pos ≤ 8 * bl ∧ left ≤ 4096 ∧ 0 ≤ left)
    (fun (f, left, cs, rl, c, pos, pI) => f) hw hm ?_ ?_
  · refine Cv.genAt [] [] (Cv.fold ([13, 14, 15, 16, 17, 18] ++ [53, 54, 55, 56, 57, 58, 59, 60, 61, 62, 63, 64, 65, 66, 67, 68, 69, 70, 71, 72, 73, 74, 75, 76, 77, 78, 79, 80, 81, 82, 83, 84, 85, 86, 87, 88, 89, 90, 91, 92, 93, 94, 95, 96, 97, 98, 99, 100, 101, 102, 103, 104, 105, 106, 107, 108, 109, 110]) 3 [2] (by exact Nat.le_refl _) (by exact Nat.le_of_ble_eq_true rfl) (by rfl) (by cbv) ?_)
    intro js
    refine ⟨(600, _, _, _, _, 4, _), ?_, js, rfl⟩
    exact ⟨hRES, by omega, by simp, rfl, by rw [hpos4]; rfl, by omega, by omega, by omega⟩
  · rintro ⟨f, left, cs, rl, c, pos, pI⟩ js ⟨hS, hf, hcl, hrl, hpI, hpb, hle, hl0⟩
    obtain ⟨g, rfl⟩ : ∃ g, f = g + 1 := ⟨f - 1, by omega⟩
    have hofn : vofN rl = (rl : Int) := by simp only [qofN]
    rw [readS] at hS
    cbv
    split
    rotate_left
    · rename_i hz
      rw [qc, gtr_false] at hz
      rw [if_pos (by omega)] at hS
      obtain ⟨rfl, rfl, hu, he0⟩ := hgood _ _ hS.symm
      subst he0
      have ea7 : vb .add .i64 pI 7 = pI + 7 := by rw [qb, add_i64 (by ((try simp only [nc] at *); omega)) (by ((try simp only [nc] at *); omega))]
      have eq8 : vb .quo .i64 (pI + 7) 8 = used0 := by rw [qb, quo_i64 (by ((try simp only [nc] at *); omega)) (by ((try simp only [nc] at *); omega)) (by omega), hu, hpI]
      cbv
      rw [ea7, eq8, hrl]
      exact ⟨[0, 2], .tup [.slice 1 .z 1 cs0.length c, .int .i64 log0, .int .i64 used0, .lit .i64 0], [.ro .u8 b, .buf 125 .i16 cs0 c], rfl, rfl, rfl, rfl, ⟨rfl, rfl, trivial⟩, rfl, .inr ⟨rfl, c, rfl, rfl⟩⟩
    · rename_i hz
      rw [qc, gtr_true] at hz
      rw [if_neg (by omega)] at hS
      cbv
      generalize hz2 : vc .gtr (vofN rl) ms = z2
      cases z2
      rotate_left
      · rw [qc, gtr_true, hofn] at hz2
        rw [if_pos (by simp only [nc] at *; omega)] at hS
        have he0 := hbad 11 (by decide) hS.symm
        subst he0
        cbv
        exact ⟨[0], .tup [.val (.slice none 0 0), .lit .i64 0, .lit .i64 0, .lit .i64 11], [.ro .u8 b], rfl, rfl, rfl, rfl, ⟨rfl, trivial⟩, rfl, .inl ⟨by decide, rfl, rfl⟩⟩
      rw [qc, gtr_false, hofn] at hz2
      rw [if_neg (by simp only [nc] at *; omega)] at hS
      have ea : vb .add .i64 left 1 = left + 1 := by rw [qb, add_i64 (by omega) (by omega)]
      have hrv1 := hrv pos cap bl (left + 1) rfl hby (by omega) (by omega) (by omega)
      have hS' : ∀ v1 (r : Option (Int × Nat)), rdN b pos (blen (left + 1) - 1).toNat = some v1 → valR b pos (left + 1) v1 = r → (match r with
        | none => (10, [], 0)
        | some (v, pos) => if v - 1 ≠ 0 then readS b ms g false (left - partsN (v - 1)) (cs ++ [v - 1]) pos
          else if ((cs ++ [v - 1]).length : Int) > ms then (11, [], 0) else readS b ms g true (left - partsN (v - 1)) (cs ++ [v - 1]) pos) = RES := by
        intro v1 r h1 h2
        rw [h1] at hS
        simp only [h2] at hS
        exact hS
      have hSn : rdN b pos (blen (left + 1) - 1).toNat = none → (10, [], 0) = RES := by
        intro h1
        rw [h1] at hS
        exact hS
      obtain ⟨mo, hmo⟩ : ∃ mo : Int, mo = left + 1 := ⟨_, rfl⟩
      rw [← hmo] at ea hrv1 hS' hSn
      rw [← hpI] at hrv1
      clear hS
      generalize blen mo = bm at *
      generalize valR b pos mo = VR at *
      cbv
      rw [ea]
      refine call_con (ρ := [(1, .z), (0, .z)]) hrv1 ⟨by rfl, by rfl, by rfl, by cbv; exact ⟨view_refl _, trivial⟩⟩ ?_
      rintro v H R js4 ⟨rfl, vv, e1, pos3, rfl, hp3, hcase, rfl⟩
      cbv
      rcases hcase with ⟨rfl, ⟨v1, hv1, hv2⟩, hvv0, hvv1⟩ | ⟨rfl, hno⟩
      rotate_left
      · have he0 := hbad 10 (by decide) (by
          rcases hno with h | ⟨v1, h1, h2⟩
          · exact (hSn h).symm
          · exact (hS' v1 none h1 h2).symm)
        subst he0
        rw [h100]
        cbv
        exact ⟨[0], .tup [.val (.slice none 0 0), .lit .i64 0, .lit .i64 0, .int .i64 10], [.ro .u8 b], rfl, rfl, rfl, rfl, ⟨rfl, trivial⟩, rfl, .inl ⟨by decide, rfl, rfl⟩⟩
      have hS2 := hS' v1 _ hv1 hv2
      simp only at hS2
      clear hS' hSn
      have el : vb .sub .i64 vv 1 = vv - 1 := by rw [qb, sub_i64 (by omega) (by omega)]
      obtain ⟨cc, hcc⟩ : ∃ cc : Int, cc = vv - 1 := ⟨_, rfl⟩
      rw [← hcc] at el hS2
      have ek : vw .i16 cc = cc := by rw [qw]; exact wrap_i16 (by omega) (by omega)
      have hpc := hparts cc (by unfold isI16; omega) (by omega)
      have hpn : 0 ≤ partsN cc ∧ partsN cc ≤ left := by unfold partsN; split <;> omega
      generalize partsN cc = pc at *
      have em : vb .sub .i64 left pc = left - pc := by rw [qb, sub_i64 (by omega) (by omega)]
      obtain ⟨left2, hl2⟩ : ∃ left2 : Int, left2 = left - pc := ⟨_, rfl⟩
      rw [← hl2] at em hS2
      have hl20 : vc .lss left2 0 = false := by rw [qc, lss_false]; omega
      have hvln : vln cs = rl := by simp only [qln, hrl]
      have hsub : vsub [cc] 0 1 = [cc] := by simp only [qsub]; rfl
      have honto : vonto cs rl [cc] = cs ++ [cc] := by rw [qonto, hrl]; simp
      have hln1 : vln [cc] = 1 := by simp only [qln]; rfl
      have ha1 : vaddN rl 1 = rl + 1 := by simp only [qaddN]
      have ha01 : vaddN 0 1 = 1 := by simp only [qaddN]
      have hrl40 : rl ≤ 256 := by omega
      obtain ⟨cs2, hcs2⟩ : ∃ cs2 : List Int, cs2 = cs ++ [cc] := ⟨_, rfl⟩
      have hcl2 : cs2.length = rl + 1 := by rw [hcs2, List.length_append, hrl]; rfl
      rw [← hcs2] at honto hS2
      obtain ⟨rl2, hrl2⟩ : ∃ rl2 : Nat, rl2 = rl + 1 := ⟨_, rfl⟩
      rw [← hrl2] at ha1 hcl2
      have hofn2 : vofN rl2 = (rl2 : Int) := by simp only [qofN]
      obtain ⟨p3, hp3'⟩ : ∃ p3 : Int, p3 = (pos3 : Nat) := ⟨_, rfl⟩
      rw [h00]
      cbv
      rw [el, ek]
      refine ⟨⟨by rw [ha01, hln1]; exact Nat.le_refl _⟩, ⟨by rw [hvln]; exact Nat.le_refl _⟩, ⟨Nat.le_refl _⟩, ⟨by rw [ha1]; omega⟩, ?_⟩
      intro c4 js6 hle4
      cbv
      refine call_con (ρ := []) hpc ⟨by rfl, by rfl, by rfl, by cbv⟩ ?_
      rintro v H R js7 ⟨rfl, rfl, rfl⟩
      cbv
      rw [em, hsub, honto, ha1, hl20]
      cbv
      generalize hz9 : vc .neq cc 0 = z9
      cases z9
      rotate_left
      · rw [qc, neq_true] at hz9
        rw [if_pos hz9] at hS2
        cbv
        refine Cv.fold ([13, 14, 15, 16, 17, 18] ++ [53, 54, 55, 56, 57, 58, 59, 60, 61, 62, 63, 64, 65, 66, 67, 68, 69, 70, 71, 72, 73, 74, 75, 76, 77, 78, 79, 80, 81, 82, 83, 84, 85, 86, 87, 88, 89, 90, 91, 92, 93, 94, 95, 96, 97, 98, 99, 100, 101, 102, 103, 104, 105, 106, 107, 108, 109, 110]) 3 [2] (by exact Nat.le_refl _) (by exact Nat.le_of_ble_eq_true rfl) (by rfl) (by cbv) ?_
        intro js
        refine ⟨(g, _, _, _, _, pos3, _), ?_, js, rfl⟩
        refine ⟨⟨hS2, by omega, by simp only [nc] at *; omega, hcl2.symm, rfl, by omega, by omega, by omega⟩, ?_⟩
        show g < g + 1
        omega
      rw [qc, neq_false] at hz9
      rw [if_neg hz9] at hS2
      cbv
      generalize hz10 : vc .gtr (vofN rl2) ms = z10
      cases z10
      rotate_left
      · rw [qc, gtr_true, hofn2] at hz10
        rw [if_pos (by simp only [nc] at *; omega)] at hS2
        have he0 := hbad 11 (by decide) hS2.symm
        subst he0
        cbv
        exact ⟨[0], .tup [.val (.slice none 0 0), .lit .i64 0, .lit .i64 0, .lit .i64 11], [.ro .u8 b], rfl, rfl, rfl, rfl, ⟨rfl, trivial⟩, rfl, .inl ⟨by decide, rfl, rfl⟩⟩
      rw [qc, gtr_false, hofn2] at hz10
      rw [if_neg (by simp only [nc] at *; omega)] at hS2
      cbv
      refine loop_fam (α := Nat × List Int × Nat × Nat × Nat × Int) ([16, 17, 18, 55, 72, 75, 84] ++ [88, 89, 90, 91, 92, 93, 94, 95, 96, 97, 98, 99, 100, 101, 102, 103, 104, 105, 106, 107, 108, 109, 110]) [2]
        (fun (f, cs, rl, c, pos, pI) => [(6, .slice 2 .z 1 rl c)])
        (fun (f, cs, rl, c, pos, pI) => [(1, .one 156 [.slice 0 .z 1 bl cap, .int .i64 pI]), (2, .buf 125 .i16 cs c)])
        (fun (f, cs, rl, c, pos, pI) => readS b ms f true left2 cs pos = RES ∧ 601 ≤ f + 2 * cs.length ∧ cs.length ≤ 256 ∧ rl = cs.length ∧ pI = (pos : Nat) ∧ pos ≤ 8 * bl ∧ f ≤ g)
        (fun (f, cs, rl, c, pos, pI) => f) hw hm ?_ ?_
      · refine Cv.fold ([16, 17, 18, 55, 72, 75, 84] ++ [88, 89, 90, 91, 92, 93, 94, 95, 96, 97, 98, 99, 100, 101, 102, 103, 104, 105, 106, 107, 108, 109, 110]) 4 [2] (by exact Nat.le_refl _) (by exact Nat.le_of_ble_eq_true rfl) (by rfl) (by cbv) ?_
        intro js
        refine ⟨(g, _, _, _, pos3, _), ?_, js, rfl⟩
        exact ⟨hS2, by omega, by simp only [nc] at *; omega, hcl2.symm, rfl, by omega, Nat.le_refl _⟩
      · rintro ⟨f5, cs5, rl5, c5, pos5, pI5⟩ js ⟨hS5, hf5a, hcl5, hrl5, hpI5, hpb5, hf5⟩
        clear hS2
        obtain ⟨g5, rfl⟩ : ∃ g5, f5 = g5 + 1 := ⟨f5 - 1, by omega⟩
        rw [readS] at hS5
        have hrd5 := hrd pos5 cap bl 2 rfl hby (by omega) (by omega) (by omega)
        simp only [nc] at hrd5 hpI5
        rw [← hpI5] at hrd5
        cbv
        refine call_con (ρ := [(1, .z), (0, .z)]) hrd5 ⟨by rfl, by rfl, by rfl, by cbv; exact ⟨view_refl _, trivial⟩⟩ ?_
        rintro v H R js8 ⟨rfl, n2, e2, pos6, rfl, hp6, hcase6, rfl⟩
        cbv
        rcases hcase6 with ⟨rfl, hrd6, hpos6, hn0, hn1⟩ | ⟨rfl, hrd6⟩
        rotate_left
        · have hrd6 : rdN b pos5 2 = none := hrd6
          rw [hrd6] at hS5
          have he0 := hbad 10 (by decide) hS5.symm
          subst he0
          rw [h100]
          cbv
          exact ⟨[0], .tup [.val (.slice none 0 0), .lit .i64 0, .lit .i64 0, .int .i64 10], [.ro .u8 b], rfl, rfl, rfl, rfl, ⟨rfl, trivial⟩, rfl, .inl ⟨by decide, rfl, rfl⟩⟩
        have hrd6 : rdN b pos5 2 = some n2 := hrd6
        have hpos6 : pos6 = pos5 + 2 := hpos6
        have hn1 : n2 < 4 := hn1
        rw [hrd6] at hS5
        simp only at hS5
        rw [← hpos6] at hS5
        have ewn : vw .i64 n2 = n2 := by rw [qw]; exact wrap_i64 (by omega) (by omega)
        have hrl5b : rl5 ≤ 256 := by omega
        obtain ⟨nN, hnN⟩ : ∃ nN : Nat, nN = n2.toNat := ⟨_, rfl⟩
        rw [← hnN] at hS5
        have hvln5 : ∀ l, vln l = l.length := fun l => by simp only [qln]
        have haddq : ∀ a b, vaddN a b = a + b := fun a b => by simp only [qaddN]
        have hont5 : ∀ (i r : Nat) (l : List Int), l = cs5 ++ List.replicate i 0 → r = rl5 + i → vonto l r (vsub [0] 0 1) = cs5 ++ List.replicate (i + 1) 0 := by
          intro i r l h1 h2
          rw [qonto, qsub, h1, h2, List.replicate_succ', ← List.append_assoc]
          simp [hrl5]
          rw [List.take_of_length_le (by simp), List.append_assoc]
        rw [h00]
        cbv
        refine loop_fam (α := Int × List Int × Nat × Nat) ([55, 72, 75, 84] ++ [96, 97, 98, 99, 100, 101, 102, 103, 104]) [2]
          (fun (k, cs, rl, c) => [(18, .int .i64 k), (6, .slice 2 .z 1 rl c)]) (fun (k, cs, rl, c) => [(2, .buf 125 .i16 cs c)])
          (fun (k, cs, rl, c) => ∃ i : Nat, k = i ∧ i ≤ nN ∧ cs = cs5 ++ List.replicate i 0 ∧ rl = rl5 + i) (fun (k, cs, rl, c) => nN - k.toNat) hw hm ?_ ?_
        · refine Cv.genAt [18] [] (Cv.fold ([55, 72, 75, 84] ++ [96, 97, 98, 99, 100, 101, 102, 103, 104]) 4 [2] (by exact Nat.le_refl _) (by exact Nat.le_of_ble_eq_true rfl) (by rfl) (by cbv) ?_)
          intro js
          refine ⟨(_, _, _, _), ?_, js, rfl⟩
          exact ⟨0, rfl, by omega, by simp, rfl⟩
        · rintro ⟨k, cs6, rl6, c6⟩ js9 ⟨i, hk, hi, hcs6, hrl6⟩
          cbv
          rw [ewn]
          generalize hz11 : vc .lss k n2 = z11
          cases z11
          rotate_left
          · rw [qc, lss_true] at hz11
            have hlt : i < nN := by ((try simp only [nc] at *); omega)
            obtain ⟨k1, hk1⟩ : ∃ k1 : Int, k1 = ((i + 1 : Nat) : Int) := ⟨_, rfl⟩
            have ek1 : vb .add .i64 k 1 = k1 := by (try simp only [nc] at *); rw [qb, add_i64 (by omega) (by omega)]; omega
            have hmu : ∀ _ : Unit, nN - k1.toNat < nN - k.toNat := fun _ => by ((try simp only [nc] at *); omega)
            have ho := hont5 i rl6 cs6 hcs6 hrl6
            obtain ⟨cs7, hcs7⟩ : ∃ cs7, cs7 = cs5 ++ List.replicate (i + 1) 0 := ⟨_, rfl⟩
            rw [← hcs7] at ho
            have hl6 : cs6.length = rl6 := by rw [hcs6, List.length_append, List.length_replicate, hrl6, hrl5]
            have ha6 := haddq rl6 1
            obtain ⟨rl7, hrl7⟩ : ∃ rl7, rl7 = rl6 + 1 := ⟨_, rfl⟩
            rw [← hrl7] at ha6
            have hln0 : vln [0] = 1 := by rw [hvln5]; rfl
            cbv
            refine ⟨⟨by rw [haddq, hln0]; exact Nat.le_refl _⟩, ⟨by rw [hvln5, hl6]; exact Nat.le_refl _⟩, ⟨Nat.le_refl _⟩, ⟨by rw [ha6]; omega⟩, ?_⟩
            intro c7 js10 hle7
            cbv
            rw [ho, ha6, ek1]
            refine Cv.fold ([55, 72, 75, 84] ++ [96, 97, 98, 99, 100, 101, 102, 103, 104]) 4 [2] (by exact Nat.le_refl _) (by exact Nat.le_of_ble_eq_true rfl) (by rfl) (by cbv) ?_
            intro js
            refine ⟨(_, _, _, _), ?_, js, rfl⟩
            exact ⟨⟨i + 1, hk1, hlt, hcs7, by omega⟩, hmu ()⟩
          · rw [qc, lss_false] at hz11
            have hin : i = nN := by ((try simp only [nc] at *); omega)
            subst hin
            rw [← hcs6] at hS5
            have hl6 : cs6.length = rl6 := by rw [hcs6, List.length_append, List.length_replicate, hrl6, hrl5]
            have hofn6 : vofN rl6 = (rl6 : Int) := by simp only [qofN]
            cbv
            generalize hz12 : vc .gtr (vofN rl6) ms = z12
            cases z12
            rotate_left
            · rw [qc, gtr_true, hofn6] at hz12
              rw [if_pos (by simp only [nc] at *; omega)] at hS5
              have he0 := hbad 11 (by decide) hS5.symm
              subst he0
              cbv
              exact ⟨[0], .tup [.val (.slice none 0 0), .lit .i64 0, .lit .i64 0, .lit .i64 11], [.ro .u8 b], rfl, rfl, rfl, rfl, ⟨rfl, trivial⟩, rfl, .inl ⟨by decide, rfl, rfl⟩⟩
            rw [qc, gtr_false, hofn6] at hz12
            rw [if_neg (by simp only [nc] at *; omega)] at hS5
            cbv
            generalize hz13 : vc .lss n2 3 = z13
            cases z13
            · rw [qc, lss_false] at hz13
              rw [if_pos (by omega)] at hS5
              cbv
              refine Cv.fold ([16, 17, 18, 55, 72, 75, 84] ++ [88, 89, 90, 91, 92, 93, 94, 95, 96, 97, 98, 99, 100, 101, 102, 103, 104, 105, 106, 107, 108, 109, 110]) 4 [2] (by exact Nat.le_refl _) (by exact Nat.le_of_ble_eq_true rfl) (by rfl) (by cbv) ?_
              intro js
              refine ⟨(g5, _, _, _, pos6, _), ?_, js, rfl⟩
              refine ⟨⟨hS5, by omega, by ((try simp only [nc] at *); omega), hl6.symm, rfl, by omega, by omega⟩, ?_⟩
              show g5 < g5 + 1
              omega
            · rw [qc, lss_true] at hz13
              rw [if_neg (by omega)] at hS5
              cbv
              refine Cv.fold ([13, 14, 15, 16, 17, 18] ++ [53, 54, 55, 56, 57, 58, 59, 60, 61, 62, 63, 64, 65, 66, 67, 68, 69, 70, 71, 72, 73, 74, 75, 76, 77, 78, 79, 80, 81, 82, 83, 84, 85, 86, 87, 88, 89, 90, 91, 92, 93, 94, 95, 96, 97, 98, 99, 100, 101, 102, 103, 104, 105, 106, 107, 108, 109, 110]) 3 [2] (by exact Nat.le_refl _) (by exact Nat.le_of_ble_eq_true rfl) (by rfl) (by cbv) ?_
              intro js
              refine ⟨(g5, _, _, _, _, pos6, _), ?_, js, rfl⟩
              refine ⟨⟨hS5, by omega, by ((try simp only [nc] at *); omega), hl6.symm, rfl, by omega, by omega, by omega⟩, ?_⟩
              show g5 < g + 1
              omega
end Go.Proofs.Ytaaklikigccdfaa
namespace Go.Proofs.Ytaaklikigccdfaa
open Go Go.Sx Go.Proofs
/-! states.Read, told shortly; what is read makes numbers of 16 bits. -/
set_option maxRecDepth 10000
set_option maxHeartbeats 40000000
theorem read_ok (b : List Int) (cap : Nat) (ml ms : Int) (hby : ∀ x ∈ b, isByte x) (hl : b.length ≤ 140737488355328) (hml : -9223372036854775808 ≤ ml ∧ ml ≤ 9223372036854775807) (hms : -9223372036854775808 ≤ ms ∧ ms ≤ 9223372036854775807)
    (cs0 : List Int) (log0 used0 : Int) (hR : readR b ml ms = (cs0, log0, used0, 0)) :
    Con Try.prog 43 [.slice 0 .z 1 b.length cap, .int .i64 ml, .int .i64 ms] [.ro .u8 b] (fun v H R => R = [] ∧ ∃ c, v = .tup [.slice 1 .z 1 cs0.length c, .int .i64 log0, .int .i64 used0, .int .i64 0] ∧ H = [.ro .u8 b, .buf 125 .i16 cs0 c]) := by
  have h : Con Try.prog 43 [.slice 0 .z 1 b.length cap, .int .i64 ml, .int .i64 ms] [.ro .u8 b] (fun v H R => R = [] ∧ ∃ c c0 acc hv ai, v = .tup [.slice 5 .z 1 cs0.length c, .int .i64 log0, .int .i64 used0, .int .i64 0] ∧
      H = [.ro .u8 b, .buf 5 .u8 b c0, .one 22 [.slice 1 .z 1 b.length c0], .one 3 [.int .i64 ai], .one 178 [.fn 91 [.ptr 3 .z 1 0, .ptr 2 .z 1 0], .int .u64 acc, .int .i64 hv, .fn 92 [.ptr 2 .z 1 0, .ptr 3 .z 1 0]], .buf 125 .i16 cs0 c]) := by
    refine con_gen (con_cut 6 (by simp) (con_drop ((read_raw b cap ml ms hby hl hml hms cs0 log0 used0 0 hR).mono ?_)))
    rintro v H R ⟨h1, h2, h3, ⟨h4, _⟩ | ⟨_, h5, c, c0, acc, hv, ai, h6, h7⟩⟩
    · exact absurd rfl h4
    · exact ⟨h5, h1, c, c0, acc, hv, ai, h6, h7⟩
  refine con_pick [0, 5] rfl rfl (h.mono ?_)
  rintro v H R ⟨rfl, c, c0, acc, hv, ai, rfl, rfl⟩
  exact ⟨.tup [.slice 1 .z 1 cs0.length c, .int .i64 log0, .int .i64 used0, .int .i64 0], [.ro .u8 b, .buf 125 .i16 cs0 c], rfl, rfl, ⟨rfl, rfl, trivial⟩, rfl, c, rfl, rfl⟩
theorem read_err (b : List Int) (cap : Nat) (ml ms : Int) (hby : ∀ x ∈ b, isByte x) (hl : b.length ≤ 140737488355328) (hml : -9223372036854775808 ≤ ml ∧ ml ≤ 9223372036854775807) (hms : -9223372036854775808 ≤ ms ∧ ms ≤ 9223372036854775807)
    (cs0 : List Int) (log0 used0 e0 : Int) (hR : readR b ml ms = (cs0, log0, used0, e0)) (he : e0 ≠ 0) :
    Con Try.prog 43 [.slice 0 .z 1 b.length cap, .int .i64 ml, .int .i64 ms] [.ro .u8 b] (fun v H R => R = [] ∧ v = .tup [.val (.slice none 0 0), .int .i64 0, .int .i64 0, .int .i64 e0] ∧ H = [.ro .u8 b]) := by
  refine con_gen (con_cut 1 (by simp) (con_drop ((read_raw b cap ml ms hby hl hml hms cs0 log0 used0 e0 hR).mono ?_)))
  rintro v H R ⟨h1, h2, h3, ⟨_, h4⟩ | ⟨h4, _⟩⟩
  · exact ⟨h2, h1, h4, h3⟩
  · exact absurd h4 he
theorem rdN_some {b : List Int} {pos n : Nat} {x : Int} (h : rdN b pos n = some x) : pos + n ≤ 8 * b.length ∧ 0 ≤ x ∧ x < 2 ^ n := by
  unfold rdN at h
  split at h
  · rename_i hp
    have := bval_bound (bitL b) (bitL_bit b) pos n
    rw [Option.some.injEq] at h
    exact ⟨hp, by omega, by omega⟩
  · cases h
theorem valR_range {b : List Int} {pos pos' : Nat} {most v x : Int} (hm : 2 ≤ most ∧ most ≤ 4097) (hr : rdN b pos (blen most - 1).toNat = some v) (h : valR b pos most v = some (x, pos')) : 0 ≤ x ∧ x ≤ 8192 ∧ pos' ≤ 8 * b.length := by
  obtain ⟨h1, h2, h3⟩ := rdN_some hr
  obtain ⟨k, hk, hk1, hk2⟩ := blen_spec (x := most) (by omega)
  have e1 : (blen most - 1).toNat = k := by omega
  have e2 : (blen most).toNat = k + 1 := by omega
  have hp : (2 : Int) ^ (k + 1) = 2 ^ k * 2 := Int.pow_succ _ _
  rw [e1] at h1 h3
  unfold valR at h
  rw [e1, e2, hp] at h
  split at h
  · split at h
    · cases h
    · rename_i top ht
      have h4 := (rdN_some ht).1
      simp only [Option.some.injEq, Prod.mk.injEq] at h
      obtain ⟨h5, h6⟩ := h
      split at h5
      · omega
      · omega
  · simp only [Option.some.injEq, Prod.mk.injEq] at h
    omega
theorem readS_ok (b : List Int) (ms : Int) : ∀ (f : Nat) (fl : Bool) (left : Int) (cs : List Int) (pos : Nat) (cs' : List Int) (pos' : Nat), left ≤ 4096 → (∀ c ∈ cs, isI16 c) → pos ≤ 8 * b.length →
    readS b ms f fl left cs pos = (0, cs', pos') → (∀ c ∈ cs', isI16 c) ∧ pos' ≤ 8 * b.length
  | 0, fl, left, cs, pos, cs', pos', h1, h2, h3, h => by
    simp only [readS, Prod.mk.injEq] at h
    obtain ⟨_, rfl, rfl⟩ := h
    exact ⟨h2, h3⟩
  | f + 1, false, left, cs, pos, cs', pos', h1, h2, h3, h => by
    rw [readS] at h
    split at h
    · simp only [Prod.mk.injEq] at h
      obtain ⟨_, rfl, rfl⟩ := h
      exact ⟨h2, h3⟩
    rename_i hl0
    split at h
    · simp at h
    split at h
    · simp at h
    rename_i v hv
    split at h
    · simp at h
    rename_i x p2 hx
    obtain ⟨h4, h5, h6⟩ := valR_range (by omega) hv hx
    have hcs : ∀ c ∈ cs ++ [x - 1], isI16 c := fun c hc => (List.mem_append.1 hc).elim (h2 c) (fun e => by rw [List.mem_singleton.1 e]; unfold isI16; omega)
    have hpn : 0 ≤ partsN (x - 1) := by unfold partsN; split <;> omega
    split at h
    · exact readS_ok b ms f false _ _ _ cs' pos' (by omega) hcs h6 h
    · split at h
      · simp at h
      · exact readS_ok b ms f true _ _ _ cs' pos' (by omega) hcs h6 h
  | f + 1, true, left, cs, pos, cs', pos', h1, h2, h3, h => by
    rw [readS] at h
    split at h
    · simp at h
    rename_i n hn
    have h4 := (rdN_some hn).1
    have hcs : ∀ c ∈ cs ++ List.replicate n.toNat 0, isI16 c := fun c hc => (List.mem_append.1 hc).elim (h2 c) (fun e => by rw [(List.mem_replicate.1 e).2]; unfold isI16; omega)
    split at h
    · simp at h
    split at h
    · exact readS_ok b ms f true _ _ _ cs' pos' h1 hcs h4 h
    · exact readS_ok b ms f false _ _ _ cs' pos' h1 hcs h4 h
theorem readR_ok {b cs : List Int} {ml ms log used : Int} (h : readR b ml ms = (cs, log, used, 0)) : (∀ c ∈ cs, isI16 c) ∧ 0 ≤ used ∧ used ≤ b.length ∧ 5 ≤ log ∧ log ≤ 12 := by
  unfold readR at h
  split at h
  · simp at h
  rename_i hml
  split at h
  · simp at h
  rename_i x hx
  obtain ⟨h1, h2, h3⟩ := rdN_some hx
  split at h
  · simp at h
  rename_i hxm
  split at h
  · simp only [Prod.mk.injEq] at h
    rename_i he
    exact absurd h.2.2.2 he
  rename_i he
  simp only [Prod.mk.injEq] at h
  obtain ⟨rfl, rfl, rfl, _⟩ := h
  have hpl := pow_log (log := x + 5) (by omega)
  have := readS_ok b ms 600 false _ [] 4 _ _ hpl.2 (by simp) (by omega) (show readS b ms 600 false (2 ^ (x + 5).toNat) [] 4 = (0, (readS b ms 600 false (2 ^ (x + 5).toNat) [] 4).2.1, (readS b ms 600 false (2 ^ (x + 5).toNat) [] 4).2.2) by
    rw [show (0 : Int) = (readS b ms 600 false (2 ^ (x + 5).toNat) [] 4).1 by rw [Decidable.not_not.1 he]])
  refine ⟨this.1, ?_, ?_, by omega, by omega⟩
  · have := this.2; omega
  · have := this.2; omega
end Go.Proofs.Ytaaklikigccdfaa
namespace Go.Proofs.Ytaaklikigccdfaa
open Go Go.Sx Go.Proofs
/-! weights.byStates. -/
set_option maxRecDepth 10000
set_option maxHeartbeats 40000000
/-- Weights told by two states: the one whose turn it is, the other one, the place. -/
def byS (A B C : Nat → Int) (b : List Int) : Nat → Int → Int → Int → List Int → Option (List Int)
  | 0, _, _, _, _ => none
  | f + 1, a, o, p, l => if p - B a.toNat < 0 then some (l ++ [A a.toNat] ++ [A o.toNat]) else byS A B C b f o (C a.toNat + rd b p (B a.toNat).toNat) (p - B a.toNat) (l ++ [A a.toNat])
/-- What bytes tell by two states, in F steps at most. -/
def bst (F : Nat) (b : List Int) : Option (List Int) :=
  match readR b 6 11 with
  | (cs, log, used, e) => if e ≠ 0 then none else if ¬ Right cs log then none else if (b.drop used.toNat).getLastD 0 = 0 then none
    else if markAt (b.drop used.toNat) - log - log < 0 then none
    else byS (symT cs (2 ^ log.toNat)) (tabB cs log (2 ^ log.toNat) (2 ^ log.toNat : Int).toNat) (tabC cs log (2 ^ log.toNat) (2 ^ log.toNat : Int).toNat) (b.drop used.toNat) F
      (rd (b.drop used.toNat) (markAt (b.drop used.toNat)) log.toNat) (rd (b.drop used.toNat) (markAt (b.drop used.toNat) - log) log.toNat) (markAt (b.drop used.toNat) - log - log) []
theorem byS_u8 {A B C : Nat → Int} {b : List Int} (hA : ∀ k, isU8 (A k)) : ∀ (F : Nat) (a o p : Int) (l L : List Int), (∀ c ∈ l, isU8 c) → byS A B C b F a o p l = some L → (∀ c ∈ L, isU8 c) ∧ L.length ≤ l.length + F + 1
  | 0, a, o, p, l, L, hl, h => by simp [byS] at h
  | f + 1, a, o, p, l, L, hl, h => by
    have hl1 : ∀ c ∈ l ++ [A a.toNat], isU8 c := fun c hc => (List.mem_append.1 hc).elim (hl c) (fun e => by rw [List.mem_singleton.1 e]; exact hA _)
    simp only [byS] at h
    split at h
    · rw [Option.some.injEq] at h
      subst h
      refine ⟨fun c hc => (List.mem_append.1 hc).elim (hl1 c) (fun e => by rw [List.mem_singleton.1 e]; exact hA _), ?_⟩
      simp
    · have := byS_u8 hA f _ _ _ _ L hl1 h
      refine ⟨this.1, ?_⟩
      have h2 := this.2
      rw [List.length_append] at h2
      simp at h2
      omega
theorem symT_u8 {cs : List Int} {log : Int} (hR : Right cs log) (size : Int) (k : Nat) : isU8 (symT cs size k) := by
  have h := symT_range (l := cs) size (by have := hR.2.2.1; omega) k
  have := hR.2.2.2.1
  unfold isU8
  omega
theorem bst_u8 {F : Nat} {b L : List Int} (h : bst F b = some L) : (∀ c ∈ L, isU8 c) ∧ L.length ≤ F + 1 := by
  unfold bst at h
  generalize hRR : readR b 6 11 = r at h
  obtain ⟨cs, log, used, e⟩ := r
  simp only at h
  split at h
  · cases h
  split at h
  · cases h
  rename_i hR
  split at h
  · cases h
  split at h
  · cases h
  have := byS_u8 (symT_u8 (Decidable.not_not.1 hR) _) F _ _ _ _ L (by simp) h
  simpa using this
theorem isByte_drop {b : List Int} (hby : ∀ x ∈ b, isByte x) (u : Nat) : ∀ x ∈ b.drop u, isByte x := fun x hx => hby x (List.mem_of_mem_drop hx)
theorem view_drop (b : List Int) (u cap : Nat) (hu : u ≤ b.length) (hc : b.length ≤ cap) : View (if cap = u then 0 else 0 + u) (b.drop u) b := by
  refine ⟨?_, fun i hi => ?_⟩
  · rw [List.length_drop]; split <;> omega
  · rw [List.length_drop] at hi
    rw [if_neg (by omega)]
    rw [List.getD_eq_getElem?_getD, List.getD_eq_getElem?_getD, List.getElem?_drop, Nat.zero_add]
theorem bystates_con (b : List Int) (cap : Nat) (hby : ∀ x ∈ b, isByte x) (hl : b.length ≤ 1000000) (hcap : b.length ≤ cap) :
    Con Try.prog 16 [.slice 0 .z 1 b.length cap] [.ro .u8 b] (fun v H R => R = [] ∧ ((bst 256 b = none ∧ H = [.ro .u8 b] ∧ v = .tup [.val (.slice none 0 0), .bool false]) ∨
      ∃ L c', bst 256 b = some L ∧ H = [.ro .u8 b, .buf 5 .u8 L c'] ∧ v = .tup [.slice 1 .z 1 L.length c', .bool true])) := by
  obtain ⟨⟨cs, log, used, e⟩, hRR⟩ : ∃ r, readR b 6 11 = r := ⟨_, rfl⟩
  have hres : bst 256 b = (if e ≠ 0 then none else if ¬ Right cs log then none else if (b.drop used.toNat).getLastD 0 = 0 then none
    else if markAt (b.drop used.toNat) - log - log < 0 then none
    else byS (symT cs (2 ^ log.toNat)) (tabB cs log (2 ^ log.toNat) (2 ^ log.toNat : Int).toNat) (tabC cs log (2 ^ log.toNat) (2 ^ log.toNat : Int).toNat) (b.drop used.toNat) 256
      (rd (b.drop used.toNat) (markAt (b.drop used.toNat)) log.toNat) (rd (b.drop used.toNat) (markAt (b.drop used.toNat) - log) log.toNat) (markAt (b.drop used.toNat) - log - log) []) := by
    unfold bst; rw [hRR]
  by_cases he : e ≠ 0
  · have h1 := read_err b cap 6 11 hby (by omega) (by omega) (by omega) cs log used e hRR he
    rw [if_pos he] at hres
    refine con_gen (con_picks (con_drop (con_walk hmix fn16 ?_)))
    intro vb vc vw vtoN vofN vaddN vsubN vmaxI vminI vcutN vgd vst vln vrep vsub vonto vsplice vstrEq vbyteV vnotB veqB hw qb qc qw qtoN qofN qaddN qsubN qmaxI qminI qcutN qgd qst qln qrep qsub qonto qsplice qstrEq qbyteV qnotB qeqB
    have hm := hmix; generalize Try.prog = P at *
    generalize b.length = bl at *
    generalize bst 256 b = RES at *
    have hz : vc .neq e 0 = true := by rw [qc, neq_true]; exact he
    cbv
    refine call_con (ρ := [(0, .z)]) h1 ⟨by rfl, by rfl, by rfl, by cbv; exact ⟨view_refl _, trivial⟩⟩ ?_
    rintro v H R js ⟨rfl, rfl, rfl⟩
    cbv
    rw [hz]
    cbv
    exact ⟨[0], .tup [.val (.slice none 0 0), .bool false], [.ro .u8 b], rfl, rfl, rfl, rfl, ⟨rfl, trivial⟩, rfl, .inl ⟨hres, rfl, rfl⟩⟩
  have he0 : e = 0 := Decidable.not_not.1 he
  subst he0
  rw [if_neg he] at hres
  clear he
  have h1 := read_ok b cap 6 11 hby (by omega) (by omega) (by omega) cs log used hRR
  obtain ⟨hcs, hu0, hu1, hlg0, hlg1⟩ := readR_ok hRR
  by_cases hR : Right cs log
  rotate_left
  · have h2 := fun c => table_bad cs log c hcs (by omega) hR
    rw [if_pos hR] at hres
    refine con_gen (con_picks (con_drop (con_walk hmix fn16 ?_)))
    intro vb vc vw vtoN vofN vaddN vsubN vmaxI vminI vcutN vgd vst vln vrep vsub vonto vsplice vstrEq vbyteV vnotB veqB hw qb qc qw qtoN qofN qaddN qsubN qmaxI qminI qcutN qgd qst qln qrep qsub qonto qsplice qstrEq qbyteV qnotB qeqB
    have hm := hmix; generalize Try.prog = P at *
    generalize b.length = bl at *
    generalize cs.length = cl at *
    generalize bst 256 b = RES at *
    have h00 : vc .neq 0 0 = false := by rw [qc]; rfl
    have h70 : vc .neq 70 0 = true := by rw [qc]; rfl
    cbv
    refine call_con (ρ := [(0, .z)]) h1 ⟨by rfl, by rfl, by rfl, by cbv; exact ⟨view_refl _, trivial⟩⟩ ?_
    rintro v H R js ⟨rfl, c1, rfl, rfl⟩
    cbv
    rw [h00]
    cbv
    refine call_con (ρ := [(1, .z)]) (h2 c1) ⟨by rfl, by rfl, by rfl, by cbv; exact ⟨view_refl _, trivial⟩⟩ ?_
    rintro v H R js ⟨rfl, rfl, rfl⟩
    cbv
    rw [h70]
    cbv
    exact ⟨[0], .tup [.val (.slice none 0 0), .bool false], [.ro .u8 b], rfl, rfl, rfl, rfl, ⟨rfl, trivial⟩, rfl, .inl ⟨hres, rfl, rfl⟩⟩
  rw [if_neg (fun h => h hR)] at hres
  have h2 := fun c => table_ok cs log c hcs (by omega) hR
  obtain ⟨u, hu⟩ : ∃ u : Nat, used = u := ⟨used.toNat, by omega⟩
  subst hu
  rw [Int.toNat_natCast] at hres
  have hvd := view_drop b u cap (by omega) hcap
  have hbd := isByte_drop hby u
  have hbl' : (b.drop u).length = b.length - u := List.length_drop
  by_cases hla : (b.drop u).getLastD 0 = 0
  · have h3 := fun c => new_bad (b.drop u) c hla (by omega)
    rw [if_pos hla] at hres
    refine con_gen (con_picks (con_drop (con_walk hmix fn16 ?_)))
    intro vb vc vw vtoN vofN vaddN vsubN vmaxI vminI vcutN vgd vst vln vrep vsub vonto vsplice vstrEq vbyteV vnotB veqB hw qb qc qw qtoN qofN qaddN qsubN qmaxI qminI qcutN qgd qst qln qrep qsub qonto qsplice qstrEq qbyteV qnotB qeqB
    have hm := hmix; generalize Try.prog = P at *
    generalize b.drop u = b' at *
    rw [hbl'] at h3
    generalize hbl : b.length = bl at *
    generalize cs.length = cl at *
    generalize bst 256 b = RES at *
    generalize (2 ^ log.toNat : Int).toNat = N at *
    generalize symT cs (2 ^ log.toNat) = A at *
    generalize tabB cs log (2 ^ log.toNat) N = B at *
    generalize tabC cs log (2 ^ log.toNat) N = C at *
    have h00 : vc .neq 0 0 = false := by rw [qc]; rfl
    have htu : vtoN (u : Int) = u := by rw [qtoN]; exact Int.toNat_natCast u
    have hcu : vcutN 0 u cap = if cap = u then 0 else 0 + u := by rw [qcutN]
    have hsu : vsubN bl u = bl - u := by rw [qsubN]
    obtain ⟨uI, huI⟩ : ∃ uI : Int, uI = (u : Int) := ⟨_, rfl⟩
    rw [← huI] at h1 htu hu0 hu1
    rw [← hcu] at hvd
    rw [← hsu] at h3
    obtain ⟨o1, ho1⟩ : ∃ o1, o1 = vcutN 0 u cap := ⟨_, rfl⟩
    obtain ⟨n1, hn1⟩ : ∃ n1, n1 = vsubN bl u := ⟨_, rfl⟩
    rw [← ho1] at hvd
    rw [← hn1] at h3
    cbv
    refine call_con (ρ := [(0, .z)]) h1 ⟨by rfl, by rfl, by rfl, by cbv; exact ⟨view_refl _, trivial⟩⟩ ?_
    rintro v H R js ⟨rfl, c1, rfl, rfl⟩
    cbv
    rw [h00]
    cbv
    refine call_con (ρ := [(1, .z)]) (h2 c1) ⟨by rfl, by rfl, by rfl, by cbv; exact ⟨view_refl _, trivial⟩⟩ ?_
    rintro v H R js ⟨rfl, rfl, rfl⟩
    cbv
    rw [h00]
    cbv
    rw [htu, ← ho1, ← hn1]
    refine ⟨fun _ => rfl, ⟨hu0, hu1⟩, ?_⟩
    refine call_con (ρ := [(0, .n o1)]) (h3 (vsubN cap u)) ⟨by rfl, by rfl, by rfl, by cbv; exact ⟨fun _ => rfl, hvd, trivial⟩⟩ ?_
    rintro v H R js ⟨rfl, rfl, rfl⟩
    cbv
    refine ⟨fun _ => rfl, ?_⟩
    exact ⟨[0], .tup [.val (.slice none 0 0), .bool false], [.ro .u8 b], rfl, rfl, rfl, rfl, ⟨rfl, trivial⟩, rfl, .inl ⟨hres, rfl, rfl⟩⟩
  rw [if_neg hla] at hres
  have h3 := fun c => new_good (b.drop u) c hla hbd (by omega)
  obtain ⟨P0, hP0, hP0l, _, _⟩ := markAt_spec (b.drop u) hla hbd
  have hmk : 8 * (((b.drop u).length : Int) - 1) + (len8 ((b.drop u).getLastD 0) - 1) = P0 := hP0
  rw [hmk] at h3
  rw [hP0] at hres
  have hpl := pow_log (log := log) ⟨hlg0, hlg1⟩
  obtain ⟨N, hN⟩ : ∃ N : Nat, (2 ^ log.toNat : Int) = N := ⟨(2 ^ log.toNat : Int).toNat, by omega⟩
  have hNt : (2 ^ log.toNat : Int).toNat = N := by omega
  have hcell : ∀ k : Nat, k < N → 0 ≤ tabB cs log (2 ^ log.toNat) N k ∧ tabB cs log (2 ^ log.toNat) N k ≤ 12 ∧ 0 ≤ tabC cs log (2 ^ log.toNat) N k ∧ tabC cs log (2 ^ log.toNat) N k + 2 ^ (tabB cs log (2 ^ log.toNat) N k).toNat ≤ N := by
    intro k hk
    obtain ⟨bb, q1, q2, q3, q4, _⟩ := cell_in hR rfl hN hk
    rw [q2, Int.toNat_natCast, ← hN]
    exact ⟨by omega, by omega, q3, q4⟩
  have hbits : ∀ (c : Nat) (p n : Int), -100 ≤ p → p ≤ 8 * (b.drop u).length → 0 ≤ n → n ≤ 12 → Con Try.prog 41 [.ptr 0 .z 2 0, .int .i64 n] [.one 140 [.slice 1 .z 1 (b.drop u).length c, .int .i64 p], .ro .u8 (b.drop u)]
      (fun v H R => v = .int .u64 (rd (b.drop u) p n.toNat) ∧ R = [] ∧ H = [.one 140 [.slice 1 .z 1 (b.drop u).length c, .int .i64 (p - n)], .ro .u8 (b.drop u)]) := by
    intro c p n h1 h2 h3 h4
    have := bits_con (b.drop u) c p n hbd ⟨by omega, h2⟩ (by omega)
    have e1 : clampN n = n.toNat := by unfold clampN; rw [if_neg (by omega), if_neg (by omega)]
    have e2 : floorP (p - (n.toNat : Nat)) = p - n := by unfold floorP; rw [if_neg (by omega)]; omega
    rw [e1, e2] at this
    exact this
  have hleft := fun c p => left_con (b.drop u) (b.drop u).length c p
  have hrb := fun p n => rd_bound (b.drop u) p n
  have hAu := symT_u8 hR (2 ^ log.toNat)
  rw [hNt] at hres h2
  have ha0 := hrb P0 log.toNat
  have ho0 := hrb (P0 - log) log.toNat
  rw [hN] at ha0 ho0
  refine con_gen (con_picks (con_drop (con_walk hmix fn16 ?_)))
  intro vb vc vw vtoN vofN vaddN vsubN vmaxI vminI vcutN vgd vst vln vrep vsub vonto vsplice vstrEq vbyteV vnotB veqB hw qb qc qw qtoN qofN qaddN qsubN qmaxI qminI qcutN qgd qst qln qrep qsub qonto qsplice qstrEq qbyteV qnotB qeqB
  have f40 := fn40
  have hm := hmix; generalize Try.prog = P at *
  generalize b.drop u = b' at *
  rw [hbl'] at h3
  simp only [hbl'] at hbits hleft
  generalize hbl : b.length = bl at *
  generalize cs.length = cl at *
  generalize bst 256 b = RES at *
  generalize symT cs (2 ^ log.toNat) = A at *
  generalize tabB cs log (2 ^ log.toNat) N = B at *
  generalize tabC cs log (2 ^ log.toNat) N = C at *
  have hby0 : ∀ a o p l, byS A B C b' 0 a o p l = none := fun _ _ _ _ => rfl
  have hbyS : ∀ f a o p l, byS A B C b' (f + 1) a o p l = if p - B a.toNat < 0 then some (l ++ [A a.toNat] ++ [A o.toNat]) else byS A B C b' f o (C a.toNat + rd b' p (B a.toNat).toNat) (p - B a.toNat) (l ++ [A a.toNat]) := fun _ _ _ _ _ => rfl
  generalize byS A B C b' = BY at *
  generalize rd b' = RD at *
  have h00 : vc .neq 0 0 = false := by rw [qc]; rfl
  have htu : vtoN (u : Int) = u := by rw [qtoN]; exact Int.toNat_natCast u
  have hcu : vcutN 0 u cap = if cap = u then 0 else 0 + u := by rw [qcutN]
  have hsu : vsubN bl u = bl - u := by rw [qsubN]
  obtain ⟨uI, huI⟩ : ∃ uI : Int, uI = (u : Int) := ⟨_, rfl⟩
  rw [← huI] at h1 htu hu0 hu1
  rw [← hcu] at hvd
  rw [← hsu] at h3
  simp only [← hsu] at hbits hleft
  obtain ⟨o1, ho1⟩ : ∃ o1, o1 = vcutN 0 u cap := ⟨_, rfl⟩
  obtain ⟨n1, hn1⟩ : ∃ n1, n1 = vsubN bl u := ⟨_, rfl⟩
  rw [← ho1] at hvd
  rw [← hn1] at h3
  simp only [← hn1] at hbits hleft
  obtain ⟨pI, hpI⟩ : ∃ pI : Int, pI = (P0 : Int) := ⟨_, rfl⟩
  rw [← hpI] at h3 hres ha0 ho0
  obtain ⟨a0, ha0'⟩ : ∃ a0, a0 = RD pI log.toNat := ⟨_, rfl⟩
  obtain ⟨o0, ho0'⟩ : ∃ o0, o0 = RD (pI - log) log.toNat := ⟨_, rfl⟩
  rw [← ha0', ← ho0'] at hres
  rw [← ha0'] at ha0
  rw [← ho0'] at ho0
  obtain ⟨p1, hp1⟩ : ∃ p1, p1 = pI - log := ⟨_, rfl⟩
  obtain ⟨p2, hp2⟩ : ∃ p2, p2 = p1 - log := ⟨_, rfl⟩
  rw [← hp1] at ho0' hres
  rw [← hp2] at hres
  have hpb : pI < 8 * (n1 : Int) := by omega
  have ewa : vw .i64 a0 = a0 := by rw [qw]; exact wrap_i64 (by omega) (by omega)
  have ewo : vw .i64 o0 = o0 := by rw [qw]; exact wrap_i64 (by omega) (by omega)
  cbv
  refine call_con (ρ := [(0, .z)]) h1 ⟨by rfl, by rfl, by rfl, by cbv; exact ⟨view_refl _, trivial⟩⟩ ?_
  rintro v H R js ⟨rfl, c1, rfl, rfl⟩
  cbv
  rw [h00]
  cbv
  refine call_con (ρ := [(1, .z)]) (h2 c1) ⟨by rfl, by rfl, by rfl, by cbv; exact ⟨view_refl _, trivial⟩⟩ ?_
  rintro v H R js ⟨rfl, rfl, rfl⟩
  cbv
  rw [h00]
  cbv
  rw [htu, ← ho1, ← hn1]
  refine ⟨fun _ => rfl, ⟨hu0, hu1⟩, ?_⟩
  refine CallX.cv f40.go (Cv.arrEq 2 (fun m => [.int .u8 (A m), .int .u8 (B m), .int .u16 (C m)]) (by rfl) (by intro i; rfl) (Cv.here ?_)) (by rfl)
  refine call_con (ρ := [(0, .n o1)]) (h3 (vsubN cap u)) ⟨by rfl, by rfl, by rfl, by cbv; exact ⟨fun _ => rfl, hvd, trivial⟩⟩ ?_
  rintro v H R js ⟨rfl, rfl, c2, rfl⟩
  cbv
  have hb1 := hbits c2 pI log (by ((try simp only [nc] at *); omega)) (by ((try simp only [nc] at *); omega)) (by ((try simp only [nc] at *); omega)) (by ((try simp only [nc] at *); omega))
  have hb2 := hbits c2 p1 log (by ((try simp only [nc] at *); omega)) (by ((try simp only [nc] at *); omega)) (by ((try simp only [nc] at *); omega)) (by ((try simp only [nc] at *); omega))
  rw [← ha0', ← hp1] at hb1
  rw [← ho0', ← hp2] at hb2
  have hlf := hleft c2 p2
  refine ⟨fun _ => rfl, ?_⟩
  refine call_con (ρ := [(4, .z), (3, .z)]) hb1 ⟨by rfl, by rfl, by rfl, by cbv; exact ⟨fun _ => rfl, view_refl _, trivial⟩⟩ ?_
  rintro v H R js ⟨rfl, rfl, rfl⟩
  cbv
  rw [ewa]
  refine ⟨fun _ => rfl, ?_⟩
  refine call_con (ρ := [(4, .z), (3, .z)]) hb2 ⟨by rfl, by rfl, by rfl, by cbv; exact ⟨fun _ => rfl, view_refl _, trivial⟩⟩ ?_
  rintro v H R js ⟨rfl, rfl, rfl⟩
  cbv
  rw [ewo]
  refine ⟨fun _ => rfl, ?_⟩
  refine call_con (ρ := [(4, .z), (3, .z)]) hlf ⟨by rfl, by rfl, by rfl, by cbv; exact ⟨fun _ => rfl, view_refl _, trivial⟩⟩ ?_
  rintro v H R js ⟨rfl, rfl, rfl⟩
  cbv
  refine ⟨fun _ => rfl, ?_⟩
  generalize hz1 : vc .lss p2 0 = z1
  cases z1
  rotate_left
  · rw [qc, lss_true] at hz1
    rw [if_pos hz1] at hres
    cbv
    exact ⟨[0], .tup [.val (.slice none 0 0), .bool false], [.ro .u8 b], rfl, rfl, rfl, rfl, ⟨rfl, trivial⟩, rfl, .inl ⟨hres, rfl, rfl⟩⟩
  rw [qc, lss_false] at hz1
  rw [if_neg hz1] at hres
  clear hb1 hb2 hlf
  cbv
  refine WX.cv (Cv.nilT 12 5 .u8 (by rfl) (by cbv; exact ⟨fun _ => rfl, trivial⟩) (Cv.here ?_))
  cbv
  refine loop_fam (α := Int × Int × Int × Nat × Nat × List Int) ([13] ++ [51, 52, 53, 54, 55, 56, 57, 58, 59, 60, 61, 62, 63, 64, 65, 66, 67, 68, 69, 70, 71, 72, 73, 74, 75, 76, 77, 78, 79, 80, 81, 82, 83, 84]) [5]
    (fun (a, o, p, n, c, L) => [(10, .int .i64 a), (11, .int .i64 o), (12, .slice 5 .z 1 n c)]) (fun (a, o, p, n, c, L) => [(4, .one 140 [.slice 3 .z 1 n1 c2, .int .i64 p]), (5, .buf 5 .u8 L c)])
    (fun (a, o, p, n, c, L) => ∃ f : Nat, f + n = 256 ∧ RES = BY f a o p L ∧ n = L.length ∧ 0 ≤ a ∧ a < N ∧ 0 ≤ o ∧ o < N ∧ 0 ≤ p ∧ p ≤ pI ∧ n ≤ c) (fun (a, o, p, n, c, L) => 257 - n) hw hm ?_ ?_
  · refine Cv.genAt [] [] (Cv.fold ([13] ++ [51, 52, 53, 54, 55, 56, 57, 58, 59, 60, 61, 62, 63, 64, 65, 66, 67, 68, 69, 70, 71, 72, 73, 74, 75, 76, 77, 78, 79, 80, 81, 82, 83, 84]) 6 [5] (by exact Nat.le_refl _) (by exact Nat.le_of_ble_eq_true rfl) (by rfl) (by cbv) ?_)
    intro js
    refine ⟨(_, _, _, _, _, _), ?_, js, rfl⟩
    exact ⟨256, rfl, hres, rfl, ha0.1, by omega, ho0.1, by omega, by omega, by omega, Nat.le_refl _⟩
  · rintro ⟨a, o, p, n, c, L⟩ js ⟨f, hfn, hRS, hnL, ha1, ha2, ho1', ho2', hp0, hpp, hnc⟩
    obtain ⟨nI, hnI⟩ : ∃ nI : Int, nI = (n : Int) := ⟨_, rfl⟩
    have en : vofN n = nI := by rw [qofN, hnI]
    cbv
    rw [en]
    generalize hz2 : vc .leq nI 255 = z2
    cases z2
    · rw [qc, leq_false] at hz2
      have hf0 : f = 0 := by ((try simp only [nc] at *); omega)
      subst hf0
      rw [hby0] at hRS
      cbv
      exact ⟨[0], .tup [.val (.slice none 0 0), .bool false], [.ro .u8 b], rfl, rfl, rfl, rfl, ⟨rfl, trivial⟩, rfl, .inl ⟨hRS, rfl, rfl⟩⟩
    rw [qc, leq_true] at hz2
    obtain ⟨g, rfl⟩ : ∃ g, f = g + 1 := ⟨f - 1, by ((try simp only [nc] at *); omega)⟩
    rw [hbyS] at hRS
    obtain ⟨aN, haN⟩ : ∃ aN : Nat, aN = a.toNat := ⟨_, rfl⟩
    obtain ⟨oN, hoN⟩ : ∃ oN : Nat, oN = o.toNat := ⟨_, rfl⟩
    have hta : vtoN a = aN := by rw [qtoN, haN]
    have hto : vtoN o = oN := by rw [qtoN, hoN]
    rw [← haN, ← hoN] at hRS
    have haNN : aN < N := by omega
    have hoNN : oN < N := by omega
    have hc1 := hcell aN haNN
    have hA1 := hAu aN
    have hA2 := hAu oN
    have hbt := hbits c2 p (B aN) (by omega) (by omega) (by omega) (by omega)
    have hrr := hrb p (B aN).toNat
    generalize hBa : B aN = Ba at *
    generalize hCa : C aN = Ca at *
    generalize hAa : A aN = Aa at *
    generalize hAo : A oN = Ao at *
    obtain ⟨x, hx⟩ : ∃ x, x = RD p Ba.toNat := ⟨_, rfl⟩
    rw [← hx] at hbt hRS hrr
    obtain ⟨q, hq⟩ : ∃ q, q = p - Ba := ⟨_, rfl⟩
    rw [← hq] at hbt hRS
    have hlf := hleft c2 q
    have ewB : vw .i64 Ba = Ba := by rw [qw]; exact wrap_i64 (by omega) (by omega)
    have ewC : vw .i64 Ca = Ca := by rw [qw]; exact wrap_i64 (by omega) (by omega)
    have ewx : vw .i64 x = x := by rw [qw]; exact wrap_i64 (by omega) (by omega)
    obtain ⟨y, hy⟩ : ∃ y, y = Ca + x := ⟨_, rfl⟩
    have eay : vb .add .i64 Ca x = y := by rw [qb, add_i64 (by omega) (by omega)]; exact hy.symm
    rw [← hy] at hRS
    have hinA : 0 ≤ a ∧ a < (N : Int) := ⟨ha1, ha2⟩
    have hinO : 0 ≤ o ∧ o < (N : Int) := ⟨ho1', ho2'⟩
    have hln1 : ∀ z : Int, vln [z] = 1 := fun z => by rw [qln]; rfl
    have hlnL : ∀ l, vln l = l.length := fun l => by rw [qln]
    have haddq : ∀ a b, vaddN a b = a + b := fun a b => by rw [qaddN]
    have hont : vonto L n (vsub [Aa] 0 1) = L ++ [Aa] := by rw [qonto, qsub, hnL]; simp
    obtain ⟨L2, hL2⟩ : ∃ L2, L2 = L ++ [Aa] := ⟨_, rfl⟩
    rw [← hL2] at hont hRS
    have hL2n : L2.length = n + 1 := by rw [hL2, List.length_append, hnL]; rfl
    have ha1' := haddq n 1
    obtain ⟨n2, hn2⟩ : ∃ n2, n2 = n + 1 := ⟨_, rfl⟩
    rw [← hn2] at ha1' hL2n
    have hn2b : n2 * 1 ≤ 140737488355328 := by ((try simp only [nc] at *); omega)
    cbv
    rw [hta, hBa, hCa, hAa]
    refine ⟨⟨hinA⟩, ⟨haNN⟩, ⟨haNN⟩, ⟨haNN⟩, fun _ => rfl, fun _ => rfl, ⟨by rw [haddq, hln1]; exact Nat.le_refl _⟩, ⟨by rw [hlnL, ← hnL]; exact Nat.le_refl _⟩, ⟨Nat.le_refl _⟩, ⟨by rw [ha1']; exact hn2b⟩, fun _ => rfl, ?_⟩
    intro c4 js4 hle
    have hle' : n2 ≤ c4 := by have := hle.out; simp only at this; rw [ha1'] at this; exact this
    cbv
    rw [hont, ha1', ewB, ewC]
    refine call_con (ρ := [(4, .z), (3, .z)]) hbt ⟨by rfl, by rfl, by rfl, by cbv; exact ⟨fun _ => rfl, view_refl _, trivial⟩⟩ ?_
    rintro v H R js5 ⟨rfl, rfl, rfl⟩
    cbv
    refine ⟨fun _ => rfl, ?_⟩
    rw [ewx, eay]
    refine call_con (ρ := [(4, .z), (3, .z)]) hlf ⟨by rfl, by rfl, by rfl, by cbv; exact ⟨fun _ => rfl, view_refl _, trivial⟩⟩ ?_
    rintro v H R js6 ⟨rfl, rfl, rfl⟩
    cbv
    refine ⟨fun _ => rfl, ?_⟩
    generalize hz3 : vc .lss q 0 = z3
    cases z3
    · rw [qc, lss_false] at hz3
      rw [if_neg hz3] at hRS
      have hmu : ∀ _ : Unit, 257 - n2 < 257 - n := fun _ => by ((try simp only [nc] at *); omega)
      cbv
      refine Cv.fold ([13] ++ [51, 52, 53, 54, 55, 56, 57, 58, 59, 60, 61, 62, 63, 64, 65, 66, 67, 68, 69, 70, 71, 72, 73, 74, 75, 76, 77, 78, 79, 80, 81, 82, 83, 84]) 6 [5] (by exact Nat.le_refl _) (by exact Nat.le_of_ble_eq_true rfl) (by rfl) (by cbv) ?_
      intro js
      refine ⟨(_, _, _, _, _, _), ?_, js, rfl⟩
      exact ⟨⟨g, by omega, hRS, hL2n.symm, ho1', ho2', by omega, by omega, by omega, by omega, hle'⟩, hmu ()⟩
    · rw [qc, lss_true] at hz3
      rw [if_pos hz3] at hRS
      have hont2 : vonto L2 n2 (vsub [Ao] 0 1) = L2 ++ [Ao] := by rw [qonto, qsub, ← hL2n]; simp
      obtain ⟨L3, hL3⟩ : ∃ L3, L3 = L2 ++ [Ao] := ⟨_, rfl⟩
      rw [← hL3] at hont2 hRS
      have hL3n : L3.length = n2 + 1 := by rw [hL3, List.length_append, hL2n]; rfl
      have ha2' := haddq n2 1
      obtain ⟨n3, hn3⟩ : ∃ n3, n3 = n2 + 1 := ⟨_, rfl⟩
      rw [← hn3] at ha2' hL3n
      have hn3b : n3 * 1 ≤ 140737488355328 := by ((try simp only [nc] at *); omega)
      cbv
      rw [hto, hAo]
      refine ⟨⟨hinO⟩, ⟨hoNN⟩, fun _ => rfl, ⟨by rw [haddq, hln1]; exact Nat.le_refl _⟩, ⟨by rw [hlnL, hL2n]; exact Nat.le_refl _⟩, ⟨Nat.le_refl _⟩, ⟨by rw [ha2']; exact hn3b⟩, fun _ => rfl, ?_⟩
      intro c5 js7 hle5
      cbv
      rw [hont2, ha2']
      subst hL3n
      exact ⟨[0, 5], .tup [.slice 1 .z 1 L3.length c5, .bool true], [.ro .u8 b, .buf 5 .u8 L3 c5], rfl, rfl, rfl, rfl, ⟨rfl, rfl, trivial⟩, rfl, .inr ⟨L3, c5, hRS, rfl, rfl⟩⟩
end Go.Proofs.Ytaaklikigccdfaa
