import Derived.Test.YtodobmkflimfkaaSC
namespace Go.Proofs.Ytodobmkflimfkaa
open Go Go.Sx Go.Proofs
set_option maxRecDepth 10000
set_option maxHeartbeats 40000000
theorem rput_ls (bs : List Int) (c n : Nat) (x k : Int) (hx : 0 ≤ x ∧ x < 2 ^ 64) (hk : 0 ≤ k ∧ k ≤ 56) (hn : n = bs.length) (hl : bs.length ≤ 2 ^ 40) :
    Con Try.prog 71 [.ptr 0 .z 1 0, .int .u64 x, .int .i64 k] [.one 95 [.slice 1 .z 1 n c], .buf 5 .u8 bs c]
      (fun v H R => R = [1] ∧ ∃ bs' n' c', bs' = bs ++ bitsN x k.toNat ∧ n' = bs'.length ∧ v = .int .i64 0 ∧ H = [.one 95 [.slice 1 .z 1 n' c'], .buf 5 .u8 bs' c']) := by
  subst hn
  refine (brefput_con bs c x k hx hl).mono ?_
  rintro v H R ⟨rfl, rfl, c', rfl⟩
  have e : putBits bs x k = bs ++ bitsN x k.toNat := by unfold putBits; rw [if_pos hk]
  have e2 : putErr k = 0 := by unfold putErr; rw [if_pos hk]
  rw [e, e2]
  exact ⟨rfl, _, _, c', rfl, rfl, rfl, rfl⟩
theorem blen_max {x : Int} (h0 : 2 ≤ x) (h : x ≤ 4097) : 2 ≤ blen x ∧ blen x ≤ 13 := by
  have h1 := blen_range (x := x) (n := 13) (by omega) (by omega)
  obtain ⟨k, h2, h3, h4⟩ := blen_spec (x := x) (by omega)
  refine ⟨?_, by omega⟩
  apply Classical.byContradiction
  intro hc
  have : k = 0 := by omega
  subst this
  omega
theorem refput_con (bs : List Int) (c n : Nat) (x most : Int) (hx : 0 ≤ x ∧ x ≤ 32768) (hm1 : 2 ≤ most ∧ most ≤ 4097) (hn : n = bs.length) (hl : bs.length ≤ 2 ^ 40) :
    Con Try.prog 72 [.ptr 0 .z 1 0, .int .i64 x, .int .i64 most] [.one 95 [.slice 1 .z 1 n c], .buf 5 .u8 bs c]
      (fun v H R => R = [1] ∧ ∃ bs' n' c', bs' = bs ++ putV x most ∧ n' = bs'.length ∧ v = .tup [] ∧ H = [.one 95 [.slice 1 .z 1 n' c'], .buf 5 .u8 bs' c']) := by
  have hput := rput_ls
  have hlen := width_con most (by omega)
  have hmax := blen_max hm1.1 hm1.2
  have hpv : putV x most = (if x < 2 ^ (blen most).toNat - 1 - most then bitsN x (blen most - 1).toNat
    else if x < 2 ^ (blen most - 1).toNat then bitsN x (blen most).toNat
    else bitsN (x + (2 ^ (blen most).toNat - 1 - most)) (blen most).toNat) := rfl
  obtain ⟨mk, hmk, hmk1, hmk2⟩ := blen_spec (x := most) (by omega)
  refine con_gen (con_cut 2 (by simp) (con_red [1] (con_walk hmix fn72 ?_)))
  intro vb vc vw vtoN vofN vaddN vsubN vmaxI vminI vcutN vgd vst vln vrep vsub vonto vsplice vstrEq vbyteV vnotB veqB hw qb qc qw qtoN qofN qaddN qsubN qmaxI qminI qcutN qgd qst qln qrep qsub qonto qsplice qstrEq qbyteV qnotB qeqB
  have hm := hmix; generalize Try.prog = P at *
  generalize putV x most = pv at *
  generalize blen most = mb at *
  have ec : vw .u64 mb = mb := by rw [qw]; exact wrap_u64 (by omega) (by omega)
  have ed : vb .shl .i64 1 mb = 2 ^ mb.toNat := by rw [qb, one_shl62 (by omega) (by omega)]
  have ee : vb .sub .i64 mb 1 = mb - 1 := by rw [qb, sub_i64 (by omega) (by omega)]
  have ee2 : vw .u64 (mb - 1) = mb - 1 := by rw [qw]; exact wrap_u64 (by omega) (by omega)
  have ef : vb .shl .i64 1 (mb - 1) = 2 ^ (mb - 1).toNat := by rw [qb, one_shl62 (by omega) (by omega)]
  have hpm : (2 : Int) ^ mb.toNat = 2 ^ (mk + 1) := by rw [hmk]; rfl
  have hpm1 : (2 : Int) ^ (mb - 1).toNat = 2 ^ mk := by rw [hmk]; congr 1; omega
  have hpw2 : (2 : Int) ^ (mk + 1) = 2 * 2 ^ mk := by rw [Int.pow_succ]; omega
  rw [hpm1] at ef hpv
  rw [hpm] at ed hpv
  rw [hpw2] at ed hpv hmk2
  have hqq : (2 : Int) ^ mk ≤ 2 ^ 12 := by exact_mod_cast Nat.pow_le_pow_right (by omega : 0 < 2) (by omega : mk ≤ 12)
  generalize hq : (2 : Int) ^ mk = q at *
  have eg : vb .sub .i64 (2 * q) 1 = 2 * q - 1 := by rw [qb, sub_i64 (by omega) (by omega)]
  have eh : vb .sub .i64 (2 * q - 1) most = 2 * q - 1 - most := by rw [qb, sub_i64 (by omega) (by omega)]
  generalize htt : 2 * q - 1 - most = tt at *
  have ek : vb .add .i64 x tt = x + tt := by rw [qb, add_i64 (by omega) (by omega)]
  have ek2 : vw .u64 (x + tt) = x + tt := by rw [qw]; exact wrap_u64 (by omega) (by omega)
  have ek3 : vw .u64 x = x := by rw [qw]; exact wrap_u64 (by omega) (by omega)
  have hp1 := fun h => hput bs c n x (mb - 1) h (by omega) hn hl
  have hp2 := fun h => hput bs c n x mb h (by omega) hn hl
  have hp3 := fun h => hput bs c n (x + tt) mb h (by omega) hn hl
  have hp1 := hp1 (by omega)
  have hp2 := hp2 (by omega)
  have hp3 := hp3 (by omega)
  generalize hxt : x + tt = xt at *
  generalize hq21 : 2 * q - 1 = q21 at *
  generalize hq2 : 2 * q = q2 at *
  generalize hmb1 : mb - 1 = mb1 at *
  cbv
  refine call_con (ρ := []) hlen ⟨by rfl, by rfl, by rfl, by cbv⟩ ?_
  rintro v H R js ⟨rfl, rfl, rfl⟩
  cbv
  rw [ec, ed, eg, eh]
  refine ⟨⟨by omega⟩, ?_⟩
  generalize hz : vc .lss x tt = z
  cases z
  · rw [qc, lss_false] at hz
    rw [if_neg hz] at hpv
    cbv
    rw [ee, ee2, ef]
    refine ⟨⟨by omega⟩, ?_⟩
    generalize hz2 : vc .lss x q = z2
    cases z2
    · rw [qc, lss_false] at hz2
      rw [if_neg hz2] at hpv
      cbv
      rw [ek, ek2]
      refine call_con (ρ := [(0, .z), (1, .z)]) hp3 ⟨by rfl, by rfl, by rfl, by cbv⟩ ?_
      rintro v H R js2 ⟨rfl, bs', n', c', hb, hn', rfl, rfl⟩
      rw [← hpv] at hb
      cbv
      exact ⟨bs', n', c', hb, hn', rfl, rfl⟩
    · rw [qc, lss_true] at hz2
      rw [if_pos hz2] at hpv
      cbv
      rw [ek3]
      refine call_con (ρ := [(0, .z), (1, .z)]) hp2 ⟨by rfl, by rfl, by rfl, by cbv⟩ ?_
      rintro v H R js2 ⟨rfl, bs', n', c', hb, hn', rfl, rfl⟩
      rw [← hpv] at hb
      cbv
      exact ⟨bs', n', c', hb, hn', rfl, rfl⟩
  · rw [qc, lss_true] at hz
    rw [if_pos hz] at hpv
    cbv
    rw [ee, ek3]
    refine call_con (ρ := [(0, .z), (1, .z)]) hp1 ⟨by rfl, by rfl, by rfl, by cbv⟩ ?_
    rintro v H R js2 ⟨rfl, bs', n', c', hb, hn', rfl, rfl⟩
    rw [← hpv] at hb
    cbv
    exact ⟨bs', n', c', hb, hn', rfl, rfl⟩
/-- The two bits of a row of zeros. -/
def zr : Nat → List Int
  | n + 3 => bitsN 3 2 ++ zr n
  | n => bitsN n 2
theorem zr_small {n : Nat} (h : n < 3) : zr n = bitsN n 2 := by
  have : n = 0 ∨ n = 1 ∨ n = 2 := by omega
  rcases this with rfl | rfl | rfl <;> rfl
theorem wgo_zeros (l : List Int) (left : Int) : ∀ (n k i : Nat), k < 3 → i + n < l.length → (∀ j, j < n → l.getD (i + j) 0 = 0) → l.getD (i + n) 0 ≠ 0 →
    wgo (some k) (l.drop i) left = zr (k + n) ++ wgo none (l.drop (i + n)) left
  | 0, k, i, hk, hi, _, hne => by
    simp only [Nat.add_zero] at hne hi ⊢
    rw [zr_small hk, drop_cons hi, wgo, if_neg hne, wgo, if_neg hne]
  | n + 1, k, i, hk, hi, hz, hne => by
    have h0 := hz 0 (by omega)
    rw [Nat.add_zero] at h0
    have hz' : ∀ j, j < n → l.getD (i + 1 + j) 0 = 0 := fun j hj => by have := hz (j + 1) (by omega); rw [show i + 1 + j = i + (j + 1) by omega]; exact this
    have hne' : l.getD (i + 1 + n) 0 ≠ 0 := by rw [show i + 1 + n = i + (n + 1) by omega]; exact hne
    rw [drop_cons (by omega), wgo, if_pos h0]
    have e : i + (n + 1) = i + 1 + n := by omega
    by_cases h2 : k = 2
    · subst h2
      rw [if_pos rfl, wgo_zeros l left n 0 (i + 1) (by omega) (by omega) hz' hne', e, show 2 + (n + 1) = n + 3 by omega, zr, List.append_assoc, Nat.zero_add]
    · rw [if_neg h2, wgo_zeros l left n (k + 1) (i + 1) (by omega) (by omega) hz' hne', e, show k + (n + 1) = k + 1 + n by omega]
theorem zr_len : ∀ q, 2 * q ≤ 3 * (zr q).length
  | 0 => by simp
  | 1 => by simp [zr, bitsN_length]
  | 2 => by simp [zr, bitsN_length]
  | n + 3 => by
    have := zr_len n
    rw [zr, List.length_append, bitsN_length]; omega
theorem putV_bit (v most : Int) : ∀ b ∈ putV v most, isBit b := by
  unfold putV
  split
  · exact bitsN_bit _ _
  · split <;> exact bitsN_bit _ _
theorem wgo_bit : ∀ (l : List Int) (o : Option Nat) (left : Int), ∀ b ∈ wgo o l left, isBit b
  | [], o, left, b, h => by cases o <;> simp [wgo] at h
  | c :: l, none, left, b, h => by
    simp only [wgo] at h
    split at h
    · simp at h
    · rcases List.mem_append.1 h with h | h
      · exact putV_bit _ _ b h
      · exact wgo_bit l _ _ b h
  | c :: l, some k, left, b, h => by
    simp only [wgo] at h
    split at h
    · split at h
      · rcases List.mem_append.1 h with h | h
        · exact bitsN_bit _ _ b h
        · exact wgo_bit l _ _ b h
      · exact wgo_bit l _ _ b h
    · rcases List.mem_append.1 h with h | h
      · exact bitsN_bit _ _ b h
      · split at h
        · simp at h
        · rcases List.mem_append.1 h with h | h
          · exact putV_bit _ _ b h
          · exact wgo_bit l _ _ b h
theorem wbits_bit (l : List Int) (log : Int) : ∀ b ∈ wbits l log, isBit b := by
  intro b h
  rcases List.mem_append.1 h with h | h
  · exact bitsN_bit _ _ b h
  · exact wgo_bit l _ _ b h
end Go.Proofs.Ytodobmkflimfkaa
namespace Go.Proofs.Ytodobmkflimfkaa
open Go Go.Sx Go.Proofs
set_option maxRecDepth 10000
set_option maxHeartbeats 40000000
theorem refwrite_ok (l : List Int) (log : Int) (cap : Nat) (hl : ∀ c ∈ l, isI16 c) (hlog : -9223372036854775808 ≤ log ∧ log ≤ 9223372036854775807) (hR : Right l log) :
    Con Try.prog 22 [.slice 0 .z 1 l.length cap, .int .i64 log] [.ro .i16 l] (fun v H R => R = [] ∧ ∃ bs n c, v = .tup [.slice 3 .z 1 (pack (wbits l log)).length (pack (wbits l log)).length, .int .i64 0] ∧
      H = [.ro .i16 l, .one 95 [.slice 2 .z 1 n c], .buf 5 .u8 bs c, .ints 5 .u8 (pack (wbits l log))]) := by
  have hright := refright_con l log cap hl hlog
  rw [show decide (Right l log) = true by simp [hR]] at hright
  have f71 := fn71
  have hput := rput_ls
  have hpv := refput_con
  have hparts := refparts_con
  have halign := brefalign_con
  have hbytes := brefbytes_con
  refine con_gen (con_cut 4 (by simp) (con_drop (con_walk hmix fn22 ?_)))
  intro vb vc vw vtoN vofN vaddN vsubN vmaxI vminI vcutN vgd vst vln vrep vsub vonto vsplice vstrEq vbyteV vnotB veqB hw qb qc qw qtoN qofN qaddN qsubN qmaxI qminI qcutN qgd qst qln qrep qsub qonto qsplice qstrEq qbyteV qnotB qeqB
  have hm := hmix; generalize Try.prog = P at *
  obtain ⟨g1, g2, g3, g4, g5, g6, g7⟩ := hR
  have hpl := pow_log ⟨g1, g2⟩
  have htot := wbits_length ⟨g1, g2, g3, g4, g5, g6, g7⟩
  have hW0 : wbits l log = bitsN (log - 5) 4 ++ wgo none l (2 ^ log.toNat) := rfl
  have hWb : ∀ b ∈ wbits l log, isBit b := wbits_bit l log
  generalize wbits l log = W at *
  have hzeros := wgo_zeros l
  generalize hn : l.length = n at *
  have htake := fun i => sumP_take_le g6 i
  have hadd0 : ∀ i, vaddN 0 i = i := fun i => by simp only [qaddN, Nat.zero_add]
  have hto : ∀ i : Nat, vtoN (i : Int) = i := fun i => by simp only [qtoN, Int.toNat_natCast]
  have hvln : vln l = n := by simp only [qln, hn]
  have hvgd : ∀ i, vgd l i = l.getD i 0 := fun i => by simp only [qgd]
  have hmem : ∀ i, i < n → l.getD i 0 ∈ l := fun i hi => by rw [List.getD_eq_getElem?_getD, List.getElem?_eq_getElem (by omega)]; exact List.getElem_mem _
  have hgx : ∀ i, i < n → -1 ≤ l.getD i 0 := fun i hi => g6 _ (hmem i hi)
  have h16 : ∀ i, i < n → isI16 (l.getD i 0) := fun i hi => hl _ (hmem i hi)
  have hdrop : ∀ i, i < n → l.drop i = l.getD i 0 :: l.drop (i + 1) := fun i hi => drop_cons (by omega)
  have hsumn : sumP (l.take n) = 2 ^ log.toNat := by rw [List.take_of_length_le (by omega)]; exact g7
  have hsums : ∀ i, i < n → sumP (l.take (i + 1)) = sumP (l.take i) + partsN (l.getD i 0) := fun i hi => by rw [take_snoc (by omega), sumP_snoc]
  have hlast : ∀ i, i < n → l.getD i 0 = 0 → i + 1 < n := fun i hi h0 => by
    apply Classical.byContradiction
    intro hc
    have : i = n - 1 := by omega
    rw [this] at h0; exact g5 h0
  have hpart0 : partsN 0 = 0 := by decide
  have hsum0 : ∀ j, j < n → l.getD j 0 = 0 → sumP (l.take (j + 1)) = sumP (l.take j) := fun j hj h0 => by have := hsums j hj; rw [h0, hpart0] at this; omega
  have hnb : vnotB true = false := by simp only [qnotB]; rfl
  have e1 : vw .u64 (vb .sub .i64 log 5) = log - 5 := by rw [qw, qb, sub_i64 (by omega) (by omega)]; exact wrap_u64 (by omega) (by omega)
  have e2 : vw .u64 log = log := by rw [qw]; exact wrap_u64 (by omega) (by omega)
  have e3 : vb .shl .i64 1 log = 2 ^ log.toNat := by rw [qb, one_shl (by omega) (by omega)]
  have hput0 := hput [] 0 0 (log - 5) 4 (by omega) (by omega) rfl (by simp)
  generalize hlg5 : log - 5 = lg5 at *
  generalize hp : (2 : Int) ^ log.toNat = pw at *
  cbv
  refine call_con (ρ := [(0, .z)]) hright ⟨by rfl, by rfl, by rfl, by cbv; exact ⟨view_refl _, trivial⟩⟩ ?_
  rintro v H R js ⟨rfl, rfl, rfl⟩
  cbv
  rw [hnb]
  cbv
  rw [e1]
  refine CallX.cv f71.go (Cv.nilB 1 0 5 .u8 (by rfl) (by cbv) (Cv.here ?_)) (by rfl)
  refine call_con (ρ := [(1, .z), (2, .z)]) hput0 ⟨by rfl, by rfl, by rfl, by cbv⟩ ?_
  rintro v H R js2 ⟨rfl, b1, n1, c1, hb1, hn1, rfl, rfl⟩
  clear hput0 hright
  cbv
  rw [e2, e3]
  refine ⟨⟨by omega⟩, ?_⟩
  refine loop_fam (α := Int × Int × List Int × Nat × Nat) ([9, 10] ++ [25, 26, 27, 28, 29, 30, 31, 32, 33, 34, 35, 36, 37, 38, 39, 40, 41, 42, 43, 44, 45, 46, 47, 48, 49, 50, 51, 52, 53, 54, 55, 56, 57, 58, 59, 60, 61, 62, 63, 64, 65, 66, 67]) [2]
    (fun (left, k, b, n1, c1) => [(7, .int .i64 left), (8, .int .i64 k)])
    (fun (left, k, b, n1, c1) => [(1, .one 95 [.slice 2 .z 1 n1 c1]), (2, .buf 5 .u8 b c1)])
    (fun (left, k, b, n1, c1) => ∃ (i : Nat), k = i ∧ i ≤ n ∧ left = pw - sumP (l.take i) ∧ n1 = b.length ∧ b ++ wgo none (l.drop i) left = W) (fun (left, k, b, n1, c1) => n - k.toNat) hw hm ?_ ?_
  · refine Cv.genAt [8] [] (Cv.fold ([9, 10] ++ [25, 26, 27, 28, 29, 30, 31, 32, 33, 34, 35, 36, 37, 38, 39, 40, 41, 42, 43, 44, 45, 46, 47, 48, 49, 50, 51, 52, 53, 54, 55, 56, 57, 58, 59, 60, 61, 62, 63, 64, 65, 66, 67]) 3 [2] (by exact Nat.le_refl _) (by exact Nat.le_of_ble_eq_true rfl) (by rfl) (by cbv) ?_)
    intro js
    refine ⟨(_, _, _, _, _), ?_, js, rfl⟩
    exact ⟨0, rfl, by omega, by simp [sumP], hn1, by rw [hW0, hb1]; rfl⟩
  · rintro ⟨left, k, b, n2, c2⟩ js ⟨i, hk, hi, hleft, hn2, hbs⟩
    clear hn1 hb1 e1 e2 e3
    have hbl : b.length ≤ 5000 := by have := congrArg List.length hbs; rw [List.length_append] at this; omega
    cbv
    split
    rotate_left
    · rename_i h
      rw [qc, gtr_false] at h
      have hbs2 : b = W := by rw [← hbs, wgo_done (by omega), List.append_nil]
      have ha := halign b c2 (by omega)
      rw [← hn2, hbs2] at ha
      have hpb := padBits_bit hWb
      have hpl2 := padBits_length W
      have hpp := (pack_pad W).1
      have hby := fun c => hbytes (padBits W) c hpb (by omega)
      rw [hpp] at hby
      subst hbs2
      generalize padBits b = M at *
      generalize hml : M.length = Ml at *
      generalize hpk : pack b = pk at *
      generalize hpkl : pk.length = pkl at *
      cbv
      refine call_con (ρ := [(1, .z), (2, .z)]) ha ⟨by rfl, by rfl, by rfl, by cbv⟩ ?_
      rintro v H R js2 ⟨rfl, rfl, c3, rfl⟩
      cbv
      refine call_con (ρ := [(1, .z), (2, .z)]) (hby c3) ⟨by rfl, by rfl, by rfl, by cbv⟩ ?_
      rintro v H R js2 ⟨rfl, rfl, rfl⟩
      cbv
      exact ⟨M, Ml, c3, rfl, rfl⟩
    · rename_i h
      rw [qc, gtr_true] at h
      have hin : i < n := by
        apply Classical.byContradiction
        intro hc
        have : i = n := by omega
        subst this
        omega
      have ht0 := htake i
      have ht1 := htake (i + 1)
      have hs1 := hsums i hin
      have h16i := h16 i hin
      have hgxi := hgx i hin
      have hlasti := hlast i hin
      have hpn := partsN_le h16i
      have hpc := hparts _ h16i hgxi
      have hp00 : l.getD i 0 = 0 → partsN (l.getD i 0) = 0 := fun h => by rw [h]; rfl
      have hti : vtoN k = i := by rw [hk]; exact hto i
      have hinR : 0 ≤ k ∧ k < (n : Int) := by simp only [nc] at *; omega
      have ea : vb .add .i64 left 1 = left + 1 := by rw [qb, add_i64 (by omega) (by omega)]
      obtain ⟨k1, hk1⟩ : ∃ k1 : Int, k1 = ((i + 1 : Nat) : Int) := ⟨_, rfl⟩
      have em : vb .add .i64 k 1 = k1 := by simp only [nc] at *; rw [qb, add_i64 (by omega) (by omega)]; omega
      have hmu : n - k1.toNat < n - k.toNat := by simp only [nc] at *; omega
      have hwg1 : wgo none (l.drop i) left = putV (l.getD i 0 + 1) (left + 1) ++ wgo (if l.getD i 0 = 0 then some 0 else none) (l.drop (i + 1)) (left - partsN (l.getD i 0)) := by
        rw [hdrop i hin, wgo, if_neg (by omega)]
      rw [hwg1, ← List.append_assoc] at hbs
      have hpvi := hpv b c2 n2 (l.getD i 0 + 1) (left + 1) (by unfold isI16 at h16i; omega) (by omega) hn2 (by omega)
      generalize hci : l.getD i 0 = ci at *
      have ei : vw .i64 ci = ci := by unfold isI16 at h16i; rw [qw]; exact wrap_i64 (by omega) (by omega)
      have ej : vb .add .i64 ci 1 = ci + 1 := by unfold isI16 at h16i; rw [qb, add_i64 (by omega) (by omega)]
      generalize partsN ci = pc at *
      have el : vb .sub .i64 left pc = left - pc := by rw [qb, sub_i64 (by omega) (by omega)]
      generalize hmo : left + 1 = mo at *
      generalize hvv : ci + 1 = v at *
      generalize putV v mo = pv at *
      generalize hl2 : left - pc = left2 at *
      clear hpv
      cbv
      rw [hti, hadd0, hvgd, hci, ei, ej, ea]
      refine ⟨⟨hinR⟩, ⟨by omega⟩, ⟨by omega⟩, ?_⟩
      refine call_con (ρ := [(1, .z), (2, .z)]) hpvi ⟨by rfl, by rfl, by rfl, by cbv⟩ ?_
      rintro v H R js2 ⟨rfl, b3, n3, c3, hb3, hn3, rfl, rfl⟩
      rw [← hb3] at hbs
      clear hb3
      cbv
      refine call_con (ρ := []) hpc ⟨by rfl, by rfl, by rfl, by cbv⟩ ?_
      rintro v H R js3 ⟨rfl, rfl, rfl⟩
      cbv
      rw [el, em]
      generalize hz3 : vc .neq ci 0 = z3
      cases z3
      rotate_left
      · rw [qc, neq_true] at hz3
        rw [if_neg hz3] at hbs
        cbv
        refine Cv.fold ([9, 10] ++ [25, 26, 27, 28, 29, 30, 31, 32, 33, 34, 35, 36, 37, 38, 39, 40, 41, 42, 43, 44, 45, 46, 47, 48, 49, 50, 51, 52, 53, 54, 55, 56, 57, 58, 59, 60, 61, 62, 63, 64, 65, 66, 67]) 3 [2] (by exact Nat.le_refl _) (by exact Nat.le_of_ble_eq_true rfl) (by rfl) (by cbv) ?_
        intro js
        refine ⟨(_, _, _, _, _), ?_, js, rfl⟩
        exact ⟨⟨i + 1, hk1, by omega, by omega, hn3, hbs⟩, hmu⟩
      rw [qc, neq_false] at hz3
      have hz3 : ci = 0 := Classical.not_not.1 hz3
      rw [if_pos hz3] at hbs
      have hpc0 := hp00 hz3
      have hil := hlasti hz3
      have hleft2 : left2 = pw - sumP (l.take (i + 1)) := by omega
      cbv
      refine loop_fam (α := Int) [46, 47, 48, 49, 50, 51, 52, 53, 54] [2] (fun m => [(10, .int .i64 m)]) (fun _ => [])
        (fun m => ∃ (q : Nat), m = q ∧ i + 1 + q < n ∧ (∀ j, j < q → l.getD (i + 1 + j) 0 = 0) ∧ sumP (l.take (i + 1 + q)) = sumP (l.take (i + 1)))
        (fun m => n - m.toNat) hw hm ?_ ?_
      · refine Cv.genAt [10] [] (Cv.fold [46, 47, 48, 49, 50, 51, 52, 53, 54] 3 [2] (by exact Nat.le_refl _) (by exact Nat.le_of_ble_eq_true rfl) (by rfl) (by cbv) ?_)
        intro js
        refine ⟨_, ?_, js, rfl⟩
        exact ⟨0, rfl, by omega, by omega, rfl⟩
      · rintro m js ⟨q, hmq, hqn, hzq, hsq⟩
        have eo : vb .add .i64 k1 m = ((i + 1 + q : Nat) : Int) := by simp only [nc] at *; rw [qb, add_i64 (by omega) (by omega)]; omega
        have hto5 : vtoN ((i + 1 + q : Nat) : Int) = i + 1 + q := hto _
        obtain ⟨k5, hk5⟩ : ∃ k5 : Int, k5 = ((i + 1 + q : Nat) : Int) := ⟨_, rfl⟩
        rw [← hk5] at eo hto5
        have hin5 : 0 ≤ k5 ∧ k5 < (n : Int) := by simp only [nc] at *; omega
        have ep : vb .add .i64 m 1 = m + 1 := by simp only [nc] at *; rw [qb, add_i64 (by omega) (by omega)]
        cbv
        rw [eo, hto5, hadd0, hvgd]
        refine ⟨⟨hin5⟩, ⟨by omega⟩, ⟨by omega⟩, ?_⟩
        generalize hz6 : vc .eql (l.getD (i + 1 + q) 0) 0 = z6
        cases z6
        rotate_left
        · rw [qc, eql_true] at hz6
          have hq1 := hlast _ hqn hz6
          have hsq1 := hsum0 _ hqn hz6
          cbv
          rw [ep]
          generalize hm1 : m + 1 = m1 at *
          refine Cv.fold [46, 47, 48, 49, 50, 51, 52, 53, 54] 3 [2] (by exact Nat.le_refl _) (by exact Nat.le_of_ble_eq_true rfl) (by rfl) (by cbv) ?_
          intro js
          refine ⟨_, ?_, js, rfl⟩
          refine ⟨⟨q + 1, by simp only [nc] at *; omega, by omega, fun j hj => ?_, by rw [show i + 1 + (q + 1) = i + 1 + q + 1 by omega, hsq1]; exact hsq⟩, ?_⟩
          · by_cases h : j = q
            · subst h; exact hz6
            · exact hzq j (by omega)
          · simp only [nc] at *; omega
        · rw [qc, eql_false] at hz6
          have hzz := hzeros left2 q 0 (i + 1) (by omega) (by omega) hzq hz6
          rw [hzz, Nat.zero_add, ← List.append_assoc] at hbs
          cbv
          rw [eo]
          refine loop_fam (α := Int × List Int × Nat × Nat) [58, 59, 60, 61, 62, 63] [2]
            (fun (m, b, n1, c1) => [(10, .int .i64 m)]) (fun (m, b, n1, c1) => [(1, .one 95 [.slice 2 .z 1 n1 c1]), (2, .buf 5 .u8 b c1)])
            (fun (m, b, n1, c1) => ∃ (q2 : Nat), m = q2 ∧ n1 = b.length ∧ b ++ zr q2 ++ wgo none (l.drop (i + 1 + q)) left2 = W)
            (fun (m, b, n1, c1) => m.toNat) hw hm ?_ ?_
          · refine Cv.fold [58, 59, 60, 61, 62, 63] 3 [2] (by exact Nat.le_refl _) (by exact Nat.le_of_ble_eq_true rfl) (by rfl) (by cbv) ?_
            intro js
            refine ⟨(_, _, _, _), ?_, js, rfl⟩
            exact ⟨q, hmq, hn3, hbs⟩
          · rintro ⟨m, b6, n6, c6⟩ js ⟨q2, hmq2, hn6, hbs6⟩
            have hbl6 : b6.length ≤ 5000 ∧ (zr q2).length ≤ 5000 := by have := congrArg List.length hbs6; rw [List.length_append, List.length_append] at this; omega
            cbv
            split
            · rename_i hz7
              rw [qc, geq_true] at hz7
              obtain ⟨q3, hq3⟩ : ∃ q3, q2 = q3 + 3 := ⟨q2 - 3, by simp only [nc] at *; omega⟩
              have hzr : zr q2 = bitsN 3 2 ++ zr q3 := by rw [hq3]; rfl
              rw [hzr, ← List.append_assoc] at hbs6
              have hp3 := hput b6 c6 n6 3 2 (by omega) (by omega) hn6 (by omega)
              have eq5 : vb .sub .i64 m 3 = (q3 : Int) := by
                have hq40 : q2 ≤ 40000 := by have := zr_len q2; omega
                simp only [nc] at *; rw [qb, sub_i64 (by omega) (by omega)]; omega
              cbv
              refine call_con (ρ := [(1, .z), (2, .z)]) hp3 ⟨by rfl, by rfl, by rfl, by cbv⟩ ?_
              rintro v H R js6 ⟨rfl, b7, n7, c7, hb7, hn7, rfl, rfl⟩
              cbv
              rw [eq5]
              refine Cv.fold [58, 59, 60, 61, 62, 63] 3 [2] (by exact Nat.le_refl _) (by exact Nat.le_of_ble_eq_true rfl) (by rfl) (by cbv) ?_
              intro js
              refine ⟨(_, _, _, _), ?_, js, rfl⟩
              refine ⟨⟨q3, rfl, hn7, by rw [hb7]; exact hbs6⟩, ?_⟩
              show ((q3 : Nat) : Int).toNat < m.toNat
              simp only [nc] at *; omega
            · rename_i hz7
              rw [qc, geq_false] at hz7
              have hq3 : q2 < 3 := by simp only [nc] at *; omega
              have hzr := zr_small hq3
              have hmw : vw .u64 m = m := by simp only [nc] at *; rw [qw]; exact wrap_u64 (by omega) (by omega)
              have hp3 := hput b6 c6 n6 m 2 (by simp only [nc] at *; omega) (by omega) hn6 (by omega)
              rw [hzr] at hbs6
              cbv
              rw [hmw]
              refine call_con (ρ := [(1, .z), (2, .z)]) hp3 ⟨by rfl, by rfl, by rfl, by cbv⟩ ?_
              rintro v H R js6 ⟨rfl, b7, n7, c7, hb7, hn7, rfl, rfl⟩
              cbv
              refine Cv.fold ([9, 10] ++ [25, 26, 27, 28, 29, 30, 31, 32, 33, 34, 35, 36, 37, 38, 39, 40, 41, 42, 43, 44, 45, 46, 47, 48, 49, 50, 51, 52, 53, 54, 55, 56, 57, 58, 59, 60, 61, 62, 63, 64, 65, 66, 67]) 3 [2] (by exact Nat.le_refl _) (by exact Nat.le_of_ble_eq_true rfl) (by rfl) (by cbv) ?_
              intro js
              refine ⟨(_, _, _, _, _), ?_, js, rfl⟩
              refine ⟨⟨i + 1 + q, hk5, by omega, by rw [hsq]; exact hleft2, hn7, ?_⟩, by show n - k5.toNat < n - k.toNat; simp only [nc] at *; omega⟩
              rw [hb7, hmq2]; exact hbs6
end Go.Proofs.Ytodobmkflimfkaa
namespace Go.Proofs.Ytodobmkflimfkaa
open Go Go.Sx Go.Proofs
theorem rowT_prefix (l : List Int) (s : Nat) : ∀ n, s ≤ n → ∃ rest, rowT l n = rowT l s ++ rest
  | 0, h => by
    have : s = 0 := by omega
    subst this; exact ⟨[], by simp⟩
  | n + 1, h => by
    by_cases hs : s = n + 1
    · subst hs; exact ⟨[], by simp⟩
    · obtain ⟨rest, hr⟩ := rowT_prefix l s n (by omega)
      exact ⟨rest ++ List.replicate (l.getD n 0).toNat (n : Int), by rw [rowT, hr, List.append_assoc]⟩
theorem rowT_get (l : List Int) {s n p : Nat} (hs : s < n) (hp : p < (l.getD s 0).toNat) : (rowT l n).getD ((rowT l s).length + p) 0 = s ∧ (rowT l s).length + p < (rowT l n).length := by
  obtain ⟨rest, hr⟩ := rowT_prefix l (s + 1) n hs
  rw [hr, rowT, List.append_assoc]
  constructor
  · rw [List.getD_eq_getElem?_getD, List.getElem?_append_right (by omega), show (rowT l s).length + p - (rowT l s).length = p by omega, List.getElem?_append_left (by rw [List.length_replicate]; exact hp), List.getElem?_replicate, if_pos hp]
    rfl
  · rw [List.length_append, List.length_append, List.length_replicate]; omega
def tabA (l : List Int) (size : Int) (i m : Nat) : Int := if m < i then symT l size m else 0
theorem tabA_step (l : List Int) (size : Int) (i : Nat) : updI (tabA l size i) i (symT l size i) = tabA l size (i + 1) := by
  funext m
  rw [updI_eq]
  unfold tabA
  by_cases h : m = i
  · subst h; rw [if_pos rfl, if_pos (by omega)]
  · rw [if_neg h]
    by_cases h2 : m < i
    · rw [if_pos h2, if_pos (by omega)]
    · rw [if_neg h2, if_neg (by omega)]
theorem set_eq {l : List Int} {f : Nat → Int} {N i : Nat} {v : Int} (hl : l.length = N) (hi : i < N) (h : ∀ m, m < N → l.getD m 0 = f m) : ∀ m, m < N → (l.set i v).getD m 0 = updI f i v m := by
  intro m hm
  rw [updI_eq, List.getD_eq_getElem?_getD, List.getElem?_set]
  by_cases he : i = m
  · subst he; rw [if_pos rfl, if_pos (by omega), if_pos rfl]; rfl
  · rw [if_neg he, if_neg (by omega), ← List.getD_eq_getElem?_getD, h m hm]
set_option maxRecDepth 10000
set_option maxHeartbeats 40000000
theorem reftable_ok (l : List Int) (log : Int) (cap : Nat) (hl : ∀ c ∈ l, isI16 c) (hlog : -9223372036854775808 ≤ log ∧ log ≤ 9223372036854775807) (hR : Right l log) :
    Con Try.prog 24 [.slice 0 .z 1 l.length cap, .int .i64 log] [.ro .i16 l] (fun v H R => R = [] ∧ ∃ syl, v = .tup [.slice 2 .z 3 (2 ^ log.toNat : Int).toNat (2 ^ log.toNat : Int).toNat, .int .i64 0] ∧
      H = [.ro .i16 l, .ints 3 .i64 syl, .arr 65 3 (2 ^ log.toNat : Int).toNat (fun m => [.int .u8 (tabA l (2 ^ log.toNat) (2 ^ log.toNat : Int).toNat m), .int .u8 (tabB l log (2 ^ log.toNat) (2 ^ log.toNat : Int).toNat m), .int .u16 (tabC l log (2 ^ log.toNat) (2 ^ log.toNat : Int).toNat m)])]) := by
  have hright := refright_con l log cap hl hlog
  rw [show decide (Right l log) = true by simp [hR]] at hright
  have hparts := refparts_con
  have hlen := width_con
  refine con_gen (con_cut 3 (by simp) (con_drop (con_walk hmix fn24 ?_)))
  intro vb vc vw vtoN vofN vaddN vsubN vmaxI vminI vcutN vgd vst vln vrep vsub vonto vsplice vstrEq vbyteV vnotB veqB hw qb qc qw qtoN qofN qaddN qsubN qmaxI qminI qcutN qgd qst qln qrep qsub qonto qsplice qstrEq qbyteV qnotB qeqB
  have hm := hmix; generalize Try.prog = P at *
  obtain ⟨g1, g2, g3, g4, g5, g6, g7⟩ := hR
  have hpl := pow_log ⟨g1, g2⟩
  obtain ⟨size, hsz, hszs⟩ := size_of ⟨g1, g2⟩
  rw [hsz] at hpl g7
  rw [hsz]
  obtain ⟨N, hN⟩ : ∃ N : Nat, size = N := ⟨size.toNat, by omega⟩
  have hNt : size.toNat = N := by omega
  rw [hNt]
  have hto : ∀ i : Nat, vtoN (i : Int) = i := fun i => by simp only [qtoN, Int.toNat_natCast]
  have htoN : vtoN size = N := by rw [qtoN]; exact hNt
  have hadd0 : ∀ i, vaddN 0 i = i := fun i => by simp only [qaddN, Nat.zero_add]
  have hvln : ∀ l, vln l = l.length := fun l => by simp only [qln]
  have hvgd : ∀ l i, vgd l i = l.getD i 0 := fun l i => by simp only [qgd]
  have hvst : ∀ l i v, vst l i v = l.set i v := fun l i v => by simp only [qst]
  have hmem : ∀ i, i < l.length → l.getD i 0 ∈ l := fun i hi => by rw [List.getD_eq_getElem?_getD, List.getElem?_eq_getElem (by omega)]; exact List.getElem_mem _
  have hsyd : symT l size = placeT size (size - negN l l.length) (rowT l l.length) (negS l size l.length) (size - negN l l.length).toNat := rfl
  have hsyr := symT_range (l := l) size (by omega)
  have hA0 : tabA l size 0 = fun _ => 0 := rfl
  have hB0 : tabB l log size 0 = fun _ => 0 := rfl
  have hC0 : tabC l log size 0 = fun _ => 0 := rfl
  have hAs := tabA_step l size
  have hBs := tabB_step l log size
  have hCs := tabC_step l log size
  generalize hsyT : symT l size = syT at *
  generalize tabA l size = tA at *
  generalize tabB l log size = tB at *
  generalize tabC l log size = tC at *
  have hx16 : ∀ i, i < l.length → isI16 (l.getD i 0) := fun i hi => hl _ (hmem i hi)
  have hgx : ∀ i, i < l.length → -1 ≤ l.getD i 0 := fun i hi => g6 _ (hmem i hi)
  have hneg := negN_range l
  have hrl := rowT_length l g6
  have hsn : sumP (l.take l.length) = size := by rw [List.take_length]; exact g7
  have htk := sumP_take_le g6
  have hrget := @rowT_get l
  have hnegs : ∀ i, negN l (i + 1) = negN l i + (if l.getD i 0 < 0 then 1 else 0) := fun _ => rfl
  have hnegS : ∀ i, negS l size (i + 1) = (if l.getD i 0 < 0 then updI (negS l size i) (size - negN l (i + 1)).toNat i else negS l size i) := fun _ => rfl
  have hneg0 : negN l 0 = 0 := rfl
  have hnegS0 : negS l size 0 = fun _ => 0 := rfl
  have hrow0 : rowT l 0 = [] := rfl
  have hrow1 : ∀ i, rowT l (i + 1) = rowT l i ++ List.replicate (l.getD i 0).toNat (i : Int) := fun _ => rfl
  have hpsum := fun s => partsN_le_sum g6 s
  rw [g7] at hpsum
  generalize hnl : l.length = n at *
  have hnb : vnotB true = false := by simp only [qnotB]; rfl
  have e2 : vw .u64 log = log := by rw [qw]; exact wrap_u64 (by omega) (by omega)
  have e3 : vb .shl .i64 1 log = size := by rw [qb, one_shl (by omega) (by omega), hsz]
  have e8 : vrep N 0 = List.replicate N 0 := by simp only [qrep]
  have e9 : vrep 256 0 = List.replicate 256 0 := by simp only [qrep]
  have hrep : ∀ M m : Nat, (List.replicate M (0 : Int)).getD m 0 = 0 := fun M m => by rw [List.getD_eq_getElem?_getD, List.getElem?_replicate]; split <;> rfl
  cbv
  refine call_con (ρ := [(0, .z)]) hright ⟨by rfl, by rfl, by rfl, by cbv; exact ⟨view_refl _, trivial⟩⟩ ?_
  rintro v H R js ⟨rfl, rfl, rfl⟩
  cbv
  rw [hnb]
  obtain ⟨sl0, hsl0⟩ : ∃ sl0 : List Int, sl0 = List.replicate N 0 := ⟨_, rfl⟩
  rw [← hsl0] at e8
  cbv
  rw [e2, e3, htoN, e8]
  refine ⟨⟨by omega⟩, ⟨by omega⟩, ⟨by omega⟩, ⟨by omega⟩, ⟨by omega⟩, ?_⟩
  refine loop_fam (α := Int × Int × List Int) [29, 30, 31, 32, 33, 34, 35, 36, 37, 38, 39, 40, 41, 42, 43, 44, 45] []
    (fun (k, high, syl) => [(9, .int .i64 k), (8, .int .i64 high)]) (fun (k, high, syl) => [(1, .ints 3 .i64 syl)])
    (fun (k, high, syl) => ∃ i : Nat, k = i ∧ i ≤ n ∧ high = size - negN l i ∧ syl.length = N ∧ ∀ m, m < N → syl.getD m 0 = negS l size i m)
    (fun (k, high, syl) => n - k.toNat) hw hm ?_ ?_
  · refine Cv.genAt [9] [] (Cv.fold [29, 30, 31, 32, 33, 34, 35, 36, 37, 38, 39, 40, 41, 42, 43, 44, 45] 2 [] (by exact Nat.le_refl _) (by exact Nat.le_of_ble_eq_true rfl) (by rfl) (by cbv) ?_)
    intro js
    refine ⟨(_, _, _), ?_, js, rfl⟩
    exact ⟨0, rfl, by omega, by omega, by rw [hsl0]; simp, fun m _ => by rw [hnegS0, hsl0]; exact hrep N m⟩
  · rintro ⟨k, high, syl⟩ js ⟨i, hk, hi, hhigh, hsyl, hsg⟩
    cbv
    split
    · rename_i hlt
      have hlt : i < n := by rw [qc, lss_true] at hlt; simp only [qofN] at hlt; simp only [nc] at *; omega
      have hti : vtoN k = i := by rw [hk]; exact hto i
      have hinR : 0 ≤ k ∧ k < (n : Int) := by simp only [nc] at *; omega
      obtain ⟨k1, hk1⟩ : ∃ k1 : Int, k1 = ((i + 1 : Nat) : Int) := ⟨_, rfl⟩
      have ek : vb .add .i64 k 1 = k1 := by simp only [nc] at *; rw [qb, add_i64 (by omega) (by omega)]; omega
      have hmu : n - k1.toNat < n - k.toNat := by simp only [nc] at *; omega
      have hgi := hgx i hlt
      have hni := hnegs i
      have hnS := hnegS i
      have hnr := hneg (i + 1)
      have hnr0 := hneg i
      have htki := htk (i + 1)
      have hrowl1 := hrl (i + 1) (by omega)
      cbv
      rw [hti, hadd0, hvgd]
      refine ⟨⟨hinR⟩, ⟨by rw [hvln]; omega⟩, ⟨by rw [hvln]; omega⟩, ?_⟩
      generalize hci : l.getD i 0 = ci at *
      generalize hz : vc .eql ci (-1) = z
      cases z
      · rw [qc, eql_false] at hz
        rw [if_neg (by omega)] at hni hnS
        cbv
        rw [ek]
        refine Cv.fold [29, 30, 31, 32, 33, 34, 35, 36, 37, 38, 39, 40, 41, 42, 43, 44, 45] 2 [] (by exact Nat.le_refl _) (by exact Nat.le_of_ble_eq_true rfl) (by rfl) (by cbv) ?_
        intro js
        refine ⟨(_, _, _), ?_, js, rfl⟩
        exact ⟨⟨i + 1, hk1, hlt, by omega, hsyl, by rw [hnS]; exact hsg⟩, hmu⟩
      · rw [qc, eql_true] at hz
        rw [if_pos (by omega)] at hni hnS
        obtain ⟨h2, hh2⟩ : ∃ h2 : Int, h2 = size - negN l (i + 1) := ⟨_, rfl⟩
        have eh : vb .sub .i64 high 1 = h2 := by rw [qb, sub_i64 (by omega) (by omega)]; omega
        have hin2 : 0 ≤ h2 ∧ h2 < (N : Int) := by simp only [nc] at *; omega
        have ht2 : vtoN h2 = h2.toNat := by simp only [qtoN]
        have hset := set_eq (v := k) hsyl (show h2.toNat < N by simp only [nc] at *; omega) hsg
        obtain ⟨sy2, hsy2⟩ : ∃ sy2, sy2 = syl.set h2.toNat k := ⟨_, rfl⟩
        have est : vst syl h2.toNat k = sy2 := by rw [hvst, hsy2]
        have hsl2 : sy2.length = N := by rw [hsy2, List.length_set]; exact hsyl
        rw [← hsy2] at hset
        generalize hh2n : h2.toNat = h2n at *
        have hlt2 : h2n < N := by simp only [nc] at *; omega
        cbv
        rw [eh, ht2, est, ek]
        refine ⟨⟨hin2⟩, ⟨by rw [hvln]; omega⟩, ?_⟩
        refine Cv.fold [29, 30, 31, 32, 33, 34, 35, 36, 37, 38, 39, 40, 41, 42, 43, 44, 45] 2 [] (by exact Nat.le_refl _) (by exact Nat.le_of_ble_eq_true rfl) (by rfl) (by cbv) ?_
        intro js
        refine ⟨(_, _, _), ?_, js, rfl⟩
        refine ⟨⟨i + 1, hk1, hlt, hh2, hsl2, fun m hm => ?_⟩, hmu⟩
        rw [hset m hm, hnS, ← hh2, hh2n, hk]
    · rename_i hge
      have hin : i = n := by rw [qc, lss_false] at hge; simp only [qofN] at hge; simp only [nc] at *; omega
      subst hin
      have hnr := hneg i
      have hrowl := hrl i (by omega)
      rw [hsn] at hrowl
      obtain ⟨row, hrow⟩ : ∃ row, row = rowT l i := ⟨_, rfl⟩
      rw [← hrow] at hrowl hsyd
      rw [← hhigh] at hrowl hsyd
      have hrg : ∀ s p, s < i → p < (l.getD s 0).toNat → row.getD ((rowT l s).length + p) 0 = s ∧ (rowT l s).length + p < row.length := fun s p h1 h2 => by rw [hrow]; exact hrget h1 h2
      obtain ⟨Hn, hHn⟩ : ∃ Hn : Nat, high = Hn := ⟨high.toNat, by simp only [nc] at *; omega⟩
      have hrl2 : row.length = Hn := by simp only [nc] at *; omega
      have hpos := fun h => posT_range (size := size) (high := high) hszs h
      have hp0 : posT size high 0 = 0 := rfl
      have hps : ∀ q, posT size high (q + 1) = skipT size high 5000 (stepT size (posT size high q)) := fun q => rfl
      have hpl0 : placeT size high row (negS l size i) 0 = negS l size i := rfl
      have hpls : ∀ q, placeT size high row (negS l size i) (q + 1) = updI (placeT size high row (negS l size i) q) (posT size high q).toNat (row.getD q 0) := fun q => rfl
      have hstd : ∀ a, stepT size a = (a + size / 2 + size / 8 + 3) % size := fun a => rfl
      have hsb := fun a => step_bound (size := size) (by omega) a
      have hhit := fun a h0 h1 => hit0 (size := size) hszs (a := a) h0 h1
      have hsk1 := @skipT_step size high
      have hsk2 := @skipT_here size high
      have hrowpre : ∀ s, s ≤ i → (rowT l s).length ≤ Hn := fun s hs => by obtain ⟨rest, hr⟩ := rowT_prefix l s i hs; rw [← hrow] at hr; have := congrArg List.length hr; rw [List.length_append] at this; omega
      generalize placeT size high row (negS l size i) = PL at *
      generalize posT size high = PO at *
      generalize stepT size = ST at *
      generalize skipT size high = SK at *
      have hNle : N ≤ 4096 := by simp only [nc] at *; omega
      have eS : ∀ x, 0 ≤ x → x < size → vb .rem .i64 (vb .add .i64 (vb .add .i64 (vb .add .i64 x (vb .quo .i64 size 2)) (vb .quo .i64 size 8)) 3) size = ST x := by
        intro x h0 h1
        have e1 : vb .quo .i64 size 2 = size / 2 := by rw [qb, quo_i64 (by omega) (by omega) (by omega)]
        have e2 : vb .quo .i64 size 8 = size / 8 := by rw [qb, quo_i64 (by omega) (by omega) (by omega)]
        have e3 : vb .add .i64 x (size / 2) = x + size / 2 := by rw [qb, add_i64 (by omega) (by omega)]
        have e4 : vb .add .i64 (x + size / 2) (size / 8) = x + size / 2 + size / 8 := by rw [qb, add_i64 (by omega) (by omega)]
        have e5 : vb .add .i64 (x + size / 2 + size / 8) 3 = x + size / 2 + size / 8 + 3 := by rw [qb, add_i64 (by omega) (by omega)]
        rw [e1, e2, hstd, e3, e4, e5, qb, rem_i64 (by omega)]
      clear hright hrl htk hneg hnegs hnegS hrget
      cbv
      refine loop_fam (α := Int × Int × List Int) ([12] ++ [46, 47, 48, 49, 50, 51, 52, 53, 54, 55, 56, 57, 58, 59, 60, 61, 62, 63, 64, 65, 66, 67, 68, 69, 70, 71, 72, 73, 74, 75, 76, 77, 78, 79, 80, 81, 82, 83, 84, 85, 86, 87, 88, 89, 90, 91]) []
        (fun (k, a, syl) => [(11, .int .i64 k), (10, .int .i64 a)]) (fun (k, a, syl) => [(1, .ints 3 .i64 syl)])
        (fun (k, a, syl) => ∃ s : Nat, k = s ∧ s ≤ i ∧ a = PO (rowT l s).length ∧ syl.length = N ∧ ∀ m, m < N → syl.getD m 0 = PL (rowT l s).length m)
        (fun (k, a, syl) => i - k.toNat) hw hm ?_ ?_
      · refine Cv.genAt [11, 10] [] (Cv.fold ([12] ++ [46, 47, 48, 49, 50, 51, 52, 53, 54, 55, 56, 57, 58, 59, 60, 61, 62, 63, 64, 65, 66, 67, 68, 69, 70, 71, 72, 73, 74, 75, 76, 77, 78, 79, 80, 81, 82, 83, 84, 85, 86, 87, 88, 89, 90, 91]) 2 [] (by exact Nat.le_refl _) (by exact Nat.le_of_ble_eq_true rfl) (by rfl) (by cbv) ?_)
        intro js
        refine ⟨(_, _, _), ?_, js, rfl⟩
        exact ⟨0, rfl, by omega, by rw [hrow0]; exact hp0.symm, hsyl, fun m hm => by rw [hrow0]; exact (hsg m hm).trans (congrFun hpl0.symm m)⟩
      · rintro ⟨k2, a2, syl2⟩ js ⟨s, hk2, hs, ha2, hsyl2, hsg2⟩
        cbv
        split
        · rename_i hlt
          have hlt : s < i := by rw [qc, lss_true] at hlt; simp only [qofN] at hlt; simp only [nc] at *; omega
          have hti : vtoN k2 = s := by rw [hk2]; exact hto s
          have hinR : 0 ≤ k2 ∧ k2 < (i : Int) := by simp only [nc] at *; omega
          obtain ⟨k3, hk3⟩ : ∃ k3 : Int, k3 = ((s + 1 : Nat) : Int) := ⟨_, rfl⟩
          have ek : vb .add .i64 k2 1 = k3 := by simp only [nc] at *; rw [qb, add_i64 (by omega) (by omega)]; omega
          have hmu : i - k3.toNat < i - k2.toNat := by simp only [nc] at *; omega
          have hci16 := hx16 s hlt
          have hrs := hrow1 s
          have hrgs := fun p => hrg s p hlt
          have hrp := hrowpre s (by omega)
          have hrp1 := hrowpre (s + 1) (by omega)
          rw [hrs, List.length_append, List.length_replicate] at hrp1
          have hrsl : (rowT l (s + 1)).length = (rowT l s).length + (l.getD s 0).toNat := by rw [hrs, List.length_append, List.length_replicate]
          generalize hci : l.getD s 0 = ci at *
          generalize hL : (rowT l s).length = L at *
          have ecw : vw .i64 ci = ci := by unfold isI16 at hci16; rw [qw]; exact wrap_i64 (by omega) (by omega)
          cbv
          refine loop_fam (α := Int × Int × List Int) [52, 53, 54, 55, 56, 57, 58, 59, 60, 61, 62, 63, 64, 65, 66, 67, 68, 69, 70, 71, 72, 73, 74, 75, 76, 77, 78, 79, 80, 81, 82, 83, 84, 85, 86, 87, 88, 89, 90, 91] []
            (fun (j, a, syl) => [(12, .int .i64 j), (10, .int .i64 a)]) (fun (j, a, syl) => [(1, .ints 3 .i64 syl)])
            (fun (j, a, syl) => ∃ p : Nat, j = p ∧ p ≤ ci.toNat ∧ a = PO (L + p) ∧ syl.length = N ∧ ∀ m, m < N → syl.getD m 0 = PL (L + p) m)
            (fun (j, a, syl) => ci.toNat - j.toNat) hw hm ?_ ?_
          · refine Cv.genAt [12] [] (Cv.fold [52, 53, 54, 55, 56, 57, 58, 59, 60, 61, 62, 63, 64, 65, 66, 67, 68, 69, 70, 71, 72, 73, 74, 75, 76, 77, 78, 79, 80, 81, 82, 83, 84, 85, 86, 87, 88, 89, 90, 91] 2 [] (by exact Nat.le_refl _) (by exact Nat.le_of_ble_eq_true rfl) (by rfl) (by cbv) ?_)
            intro js
            refine ⟨(_, _, _), ?_, js, rfl⟩
            exact ⟨0, rfl, by omega, ha2, hsyl2, hsg2⟩
          · rintro ⟨j, a, syl3⟩ js ⟨p, hj, hp, ha, hsyl3, hsg3⟩
            cbv
            rw [hti, hadd0, hvgd, hci, ecw]
            refine ⟨⟨hinR⟩, ⟨by rw [hvln]; omega⟩, ⟨by rw [hvln]; omega⟩, ?_⟩
            split
            rotate_left
            · rename_i hge2
              have hpe : p = ci.toNat := by rw [qc, lss_false] at hge2; simp only [nc] at *; omega
              cbv
              rw [ek]
              refine Cv.fold ([12] ++ [46, 47, 48, 49, 50, 51, 52, 53, 54, 55, 56, 57, 58, 59, 60, 61, 62, 63, 64, 65, 66, 67, 68, 69, 70, 71, 72, 73, 74, 75, 76, 77, 78, 79, 80, 81, 82, 83, 84, 85, 86, 87, 88, 89, 90, 91]) 2 [] (by exact Nat.le_refl _) (by exact Nat.le_of_ble_eq_true rfl) (by rfl) (by cbv) ?_
              intro js
              refine ⟨(_, _, _), ?_, js, rfl⟩
              exact ⟨⟨s + 1, hk3, hlt, by rw [hrsl, ← hpe]; exact ha, hsyl3, fun m hm => by rw [hrsl, ← hpe]; exact hsg3 m hm⟩, hmu⟩
            · rename_i hlt2
              have hpe : p < ci.toNat := by rw [qc, lss_true] at hlt2; simp only [nc] at *; omega
              obtain ⟨hrg1, hrg2⟩ := hrgs p hpe
              have hHpos : 0 < high := by simp only [nc] at *; omega
              have hpq := hpos hHpos (L + p)
              obtain ⟨hst0, hst1⟩ := hsb (PO (L + p))
              obtain ⟨mm, hmm, hmm0⟩ := hhit _ hst0 hst1
              have hta : vtoN a = (PO (L + p)).toNat := by rw [ha, qtoN]
              have hin2 : 0 ≤ a ∧ a < (N : Int) := by simp only [nc] at *; omega
              have hinN : (PO (L + p)).toNat < N := by simp only [nc] at *; omega
              obtain ⟨j1, hj1⟩ : ∃ j1 : Int, j1 = ((p + 1 : Nat) : Int) := ⟨_, rfl⟩
              have ej : vb .add .i64 j 1 = j1 := by simp only [nc] at *; unfold isI16 at hci16; rw [qb, add_i64 (by omega) (by omega)]; omega
              have eSa := eS a (by omega) (by omega)
              have hset := set_eq (v := k2) hsyl3 hinN hsg3
              obtain ⟨sy4, hsy4⟩ : ∃ sy4, sy4 = syl3.set (PO (L + p)).toNat k2 := ⟨_, rfl⟩
              have est : vst syl3 (PO (L + p)).toNat k2 = sy4 := by rw [hvst, hsy4]
              have hsl4 : sy4.length = N := by rw [hsy4, List.length_set]; exact hsyl3
              rw [← hsy4] at hset
              have hPL1 : ∀ m, m < N → sy4.getD m 0 = PL (L + (p + 1)) m := fun m hm => by rw [hset m hm, ← Nat.add_assoc, hpls, hrg1, hk2]
              have hPO1 : PO (L + (p + 1)) = SK 5000 (ST (PO (L + p))) := by rw [← Nat.add_assoc, hps]
              generalize hSTa : ST a = sta at *
              cbv
              rw [hta, est, eSa]
              refine ⟨⟨hin2⟩, ⟨by rw [hvln]; omega⟩, ⟨by omega⟩, ?_⟩
              refine loop_fam (α := Nat × Int) [75, 76, 77, 78, 79, 80, 81, 82, 83, 84, 85, 86, 87, 88, 89, 90, 91] [] (fun (nn, a) => [(10, .int .i64 a)]) (fun _ => [])
                (fun (nn, a) => ∃ m, SK nn a = PO (L + (p + 1)) ∧ iterT size m a = 0 ∧ m ≤ nn ∧ 0 ≤ a ∧ a < size) (fun (nn, a) => nn) hw hm ?_ ?_
              · refine Cv.fold [75, 76, 77, 78, 79, 80, 81, 82, 83, 84, 85, 86, 87, 88, 89, 90, 91] 2 [] (by exact Nat.le_refl _) (by exact Nat.le_of_ble_eq_true rfl) (by rfl) (by cbv) ?_
                intro js
                refine ⟨(5000, _), ?_, js, rfl⟩
                rw [← ha, hSTa] at hst0 hst1 hmm0
                exact ⟨mm, by rw [hPO1, ← ha, hSTa], hmm0, by omega, hst0, hst1⟩
              · rintro ⟨nn, a5⟩ js ⟨m2, hSK, hit, hm2, ha0, ha1⟩
                have eS2 := eS a5 ha0 ha1
                cbv
                generalize hz5 : vc .geq a5 high = z5
                cases z5
                · rw [qc, geq_false] at hz5
                  have hh1 : SK nn a5 = a5 := hsk2 (by omega)
                  cbv
                  rw [ej]
                  refine Cv.fold [52, 53, 54, 55, 56, 57, 58, 59, 60, 61, 62, 63, 64, 65, 66, 67, 68, 69, 70, 71, 72, 73, 74, 75, 76, 77, 78, 79, 80, 81, 82, 83, 84, 85, 86, 87, 88, 89, 90, 91] 2 [] (by exact Nat.le_refl _) (by exact Nat.le_of_ble_eq_true rfl) (by rfl) (by cbv) ?_
                  intro js
                  refine ⟨(_, _, _), ?_, js, rfl⟩
                  refine ⟨⟨p + 1, hj1, hpe, by rw [← hSK, hh1], hsl4, hPL1⟩, ?_⟩
                  show ci.toNat - j1.toNat < ci.toNat - j.toNat
                  simp only [nc] at *
                  omega
                · rw [qc, geq_true] at hz5
                  obtain ⟨n3, m3, hn3, hm3, hsk, hit3⟩ := hsk1 (a := a5) (n := nn) (m := m2) hHpos (by omega) hit hm2
                  obtain ⟨hsb2, hsb3⟩ := hsb a5
                  have hgh : vc .gtr high 0 = true := by rw [qc, gtr_true]; exact hHpos
                  cbv
                  rw [hgh]
                  cbv
                  rw [eS2]
                  refine ⟨⟨by omega⟩, ?_⟩
                  refine Cv.fold [75, 76, 77, 78, 79, 80, 81, 82, 83, 84, 85, 86, 87, 88, 89, 90, 91] 2 [] (by exact Nat.le_refl _) (by exact Nat.le_of_ble_eq_true rfl) (by rfl) (by cbv) ?_
                  intro js
                  refine ⟨(n3, _), ?_, js, rfl⟩
                  refine ⟨⟨m3, by rw [← hsk]; exact hSK, hit3, by omega, hsb2, hsb3⟩, ?_⟩
                  show n3 < nn
                  omega
        · rename_i hge
          have hse : s = i := by rw [qc, lss_false] at hge; simp only [qofN] at hge; simp only [nc] at *; omega
          subst hse
          have hsyE : ∀ m, m < N → syl2.getD m 0 = syT m := fun m hm => by
            rw [hsg2 m hm, hsyd, ← hrow, hrl2, hHn]; simp
          have hcr := cntT_range syT
          have hcs : ∀ x q, cntT syT x (q + 1) = cntT syT x q + (if syT q = x then 1 else 0) := fun _ _ => rfl
          have hc0 : ∀ x, cntT syT x 0 = 0 := fun _ => rfl
          have hxd : ∀ q, xT l syT q = partsN (l.getD (syT q).toNat 0) + cntT syT (syT q) q := fun _ => rfl
          generalize xT l syT = XT at *
          have hbd : ∀ x, bT log x = IntKind.u8.wrap (log + 1 - blen x) := fun _ => rfl
          have hcd : ∀ x, baseT log size x = IntKind.u16.wrap (bV .sub .i64 (bV .shl .i64 x (IntKind.u64.wrap (log + 1 - blen x))) size) := fun _ => rfl
          generalize bT log = bTf at *
          generalize baseT log size = bAf at *
          obtain ⟨xs0, hxs0⟩ : ∃ xs0 : List Int, xs0 = List.replicate 256 0 := ⟨_, rfl⟩
          rw [← hxs0] at e9
          clear hps hpls hpos hhit hsk1 hsk2 hsb hstd hrg
          cbv
          have e10 : vtoN 256 = 256 := by rw [qtoN]; rfl
          rw [htoN, e10, e9]
          refine ⟨⟨by omega⟩, ⟨by omega⟩, ⟨by omega⟩, ⟨by omega⟩, ⟨by omega⟩, ⟨by omega⟩, ⟨by omega⟩, ⟨by omega⟩, fun _ => rfl, ?_⟩
          refine WX.cv (Cv.arrEq 2 (fun m => [.int .u8 (tA 0 m), .int .u8 (tB 0 m), .int .u16 (tC 0 m)]) (by rfl) (by intro i; rw [hA0, hB0, hC0]; rfl) (Cv.here ?_))
          cbv
          refine loop_fam (α := Int × (Nat → Int) × (Nat → Int) × (Nat → Int) × List Int) ([16, 17, 18] ++ [95, 96, 97, 98, 99, 100, 101, 102, 103, 104, 105, 106, 107, 108, 109, 110, 111, 112, 113, 114, 115, 116, 117, 118, 119, 120, 121, 122, 123, 124, 125, 126, 127, 128, 129, 130, 131, 132, 133, 134, 135, 136, 137, 138, 139]) []
            (fun (k, a, b, c, xs) => [(15, .int .i64 k)])
            (fun (k, a, b, c, xs) => [(2, .arr 65 3 N (fun m => [.int .u8 (a m), .int .u8 (b m), .int .u16 (c m)])), (3, .ints 3 .i64 xs)])
            (fun (k, a, b, c, xs) => ∃ q : Nat, k = q ∧ q ≤ N ∧ a = tA q ∧ b = tB q ∧ c = tC q ∧ xs.length = 256 ∧ ∀ x : Nat, xs.getD x 0 = cntT syT x q)
            (fun (k, a, b, c, xs) => N - k.toNat) hw hm ?_ ?_
          · refine Cv.genAt [15] [] (Cv.fold ([16, 17, 18] ++ [95, 96, 97, 98, 99, 100, 101, 102, 103, 104, 105, 106, 107, 108, 109, 110, 111, 112, 113, 114, 115, 116, 117, 118, 119, 120, 121, 122, 123, 124, 125, 126, 127, 128, 129, 130, 131, 132, 133, 134, 135, 136, 137, 138, 139]) 4 [] (by exact Nat.le_refl _) (by exact Nat.le_of_ble_eq_true rfl) (by rfl) (by cbv) ?_)
            intro js
            refine ⟨(_, _, _, _, _), ?_, js, rfl⟩
            exact ⟨0, rfl, by omega, rfl, rfl, rfl, by rw [hxs0]; simp, fun x => by rw [hc0, hxs0]; exact hrep 256 x⟩
          · rintro ⟨k3, a3, b3, c3, xs3⟩ js ⟨q3, hk3, hq3, ha3, hb3, hc3, hxl3, hxg3⟩
            cbv
            split
            rotate_left
            · rename_i hlt3
              have hqe3 : q3 = N := by rw [qc, lss_false] at hlt3; simp only [nc] at *; omega
              subst hqe3
              subst ha3 hb3 hc3
              cbv
              exact ⟨syl2, rfl, rfl⟩
            · rename_i hlt3
              have hqe3 : q3 < N := by rw [qc, lss_true] at hlt3; simp only [nc] at *; omega
              have ht3 : vtoN k3 = q3 := by rw [hk3]; exact hto q3
              have hin3 : 0 ≤ k3 ∧ k3 < (N : Int) := by simp only [nc] at *; omega
              obtain ⟨hsr0, hsr1⟩ := hsyr q3
              have hsyq := hsyE q3 hqe3
              have htsy : vtoN (syT q3) = (syT q3).toNat := by simp only [qtoN]
              have hin4 : 0 ≤ syT q3 ∧ syT q3 < ((256 : Nat) : Int) := by simp only [nc] at *; omega
              have hin5 : 0 ≤ syT q3 ∧ syT q3 < (s : Int) := by simp only [nc] at *; omega
              have hcast : ((syT q3).toNat : Int) = syT q3 := Int.toNat_of_nonneg hsr0
              have hsnN : (syT q3).toNat < s := by simp only [nc] at *; omega
              have hxr0 := hpsum (syT q3).toNat
              have hxr1 := hcr (syT q3) q3
              have hxq := hxd q3
              have hcx : xs3.getD (syT q3).toNat 0 = cntT syT (syT q3) q3 := by rw [hxg3]; simp only [nc]; rw [hcast]
              have hpc := hparts _ (hx16 _ hsnN) (hgx _ hsnN)
              have hBq := hBs q3
              have hCq := hCs q3
              have hAq := hAs q3
              generalize hxv : XT q3 = xv at *
              have hxv0 : 0 ≤ xv ∧ xv ≤ 8192 := by simp only [nc] at *; omega
              have hlx := hlen xv (by omega)
              have hbl := blen_16 (x := xv) (by omega) (by omega)
              have hbv := hbd xv
              have hcv := hcd xv
              generalize blen xv = bl at *
              have enn : vb .sub .i64 log (vb .sub .i64 bl 1) = log + 1 - bl := by
                have e : vb .sub .i64 bl 1 = bl - 1 := by rw [qb, sub_i64 (by omega) (by omega)]
                rw [e, qb, sub_i64 (by omega) (by omega)]; omega
              generalize hnnv : log + 1 - bl = nn at *
              have hnn0 : 0 ≤ vw .u64 nn := by
                rw [qw]; simp only [IntKind.wrap, IntKind.bits, IntKind.signed]
                simp
                omega
              have eA : vw .u8 (syT q3) = syT q3 := by rw [qw]; exact wrap_u8 (by omega) (by simp only [nc] at *; omega)
              have eB : vw .u8 nn = bTf xv := by rw [hbv, qw]
              have eC : vw .u16 (vb .sub .i64 (vb .shl .i64 xv (vw .u64 nn)) size) = bAf xv := by rw [hcv, qw, qb]
              rw [← ha3] at hAq
              rw [← hb3] at hBq
              rw [← hc3] at hCq
              obtain ⟨bel, hbel⟩ : ∃ bel : Int, bel = cntT syT (syT q3) q3 := ⟨_, rfl⟩
              rw [← hbel] at hcx hxq hxr1
              have ebl1 : vb .add .i64 bel 1 = bel + 1 := by simp only [nc] at *; rw [qb, add_i64 (by omega) (by omega)]
              have exv : vb .add .i64 (partsN (l.getD (syT q3).toNat 0)) bel = xv := by simp only [nc] at *; rw [qb, add_i64 (by omega) (by omega)]; omega
              obtain ⟨k4, hk4⟩ : ∃ k4 : Int, k4 = ((q3 + 1 : Nat) : Int) := ⟨_, rfl⟩
              have ek4 : vb .add .i64 k3 1 = k4 := by simp only [nc] at *; rw [qb, add_i64 (by omega) (by omega)]; omega
              obtain ⟨xs4, hxs4⟩ : ∃ xs4, xs4 = xs3.set (syT q3).toNat (bel + 1) := ⟨_, rfl⟩
              have evs : vst xs3 (syT q3).toNat (bel + 1) = xs4 := by rw [qst, hxs4]
              have hxl4 : xs4.length = 256 := by rw [hxs4, List.length_set]; exact hxl3
              have hxg4 : ∀ x : Nat, xs4.getD x 0 = cntT syT x (q3 + 1) := by
                intro x
                rw [hcs, hxs4, List.getD_eq_getElem?_getD, List.getElem?_set, hxl3]
                by_cases h : (syT q3).toNat = x
                · have hsy : syT q3 = x := by simp only [nc] at *; omega
                  rw [if_pos h, if_pos (by simp only [nc] at *; omega), if_pos hsy, hbel, hsy]
                  rfl
                · rw [if_neg h, if_neg (by simp only [nc] at *; omega), ← List.getD_eq_getElem?_getD, hxg3]
                  simp only [nc]
                  omega
              generalize hsq : syT q3 = sq at *
              generalize hsqn : sq.toNat = sqn at *
              generalize hci : l.getD sqn 0 = ci at *
              generalize partsN ci = pc at *
              generalize ha4 : tA (q3 + 1) = a4 at *
              generalize hb4 : tB (q3 + 1) = b4 at *
              generalize hs4 : tC (q3 + 1) = c4 at *
              generalize bTf xv = bx at *
              generalize bAf xv = ax at *
              generalize bel + 1 = bel1 at *
              cbv
              rw [ht3, hvgd, hsyq, htsy, hadd0, hvgd, hci]
              refine ⟨⟨hin3⟩, ⟨by rw [hvln]; omega⟩, ⟨hin5⟩, ⟨by rw [hvln]; omega⟩, ⟨by rw [hvln]; omega⟩, ⟨hin4⟩, ⟨by rw [hvln]; simp only [nc] at *; omega⟩, ?_⟩
              refine call_con (ρ := []) hpc ⟨by rfl, by rfl, by rfl, by cbv; exact ⟨fun _ => rfl, trivial⟩⟩ ?_
              rintro v H R js5 ⟨rfl, rfl, rfl⟩
              cbv
              rw [hvgd, hcx, htsy, hvgd, hcx, ebl1, exv, evs]
              refine ⟨fun _ => rfl, ⟨⟨by rw [hvln]; simp only [nc] at *; omega⟩, trivial⟩, ⟨hin4⟩, ⟨by rw [hvln]; simp only [nc] at *; omega⟩, ⟨hin4⟩, ⟨by rw [hvln]; simp only [nc] at *; omega⟩, ?_⟩
              refine call_con (ρ := []) hlx ⟨by rfl, by rfl, by rfl, by cbv; exact ⟨fun _ => rfl, trivial⟩⟩ ?_
              rintro v H R js6 ⟨rfl, rfl, rfl⟩
              cbv
              rw [enn, eA, eB, eC, ht3, updF_3_0, updF_3_1, updF_3_2, hAq, hBq, hCq, ek4]
              refine ⟨fun _ => rfl, ⟨hnn0⟩, ⟨hin3⟩, ⟨hqe3⟩, ⟨hqe3⟩, ⟨hqe3⟩, ?_⟩
              refine Cv.fold ([16, 17, 18] ++ [95, 96, 97, 98, 99, 100, 101, 102, 103, 104, 105, 106, 107, 108, 109, 110, 111, 112, 113, 114, 115, 116, 117, 118, 119, 120, 121, 122, 123, 124, 125, 126, 127, 128, 129, 130, 131, 132, 133, 134, 135, 136, 137, 138, 139]) 4 [] (by exact Nat.le_refl _) (by exact Nat.le_of_ble_eq_true rfl) (by rfl) (by cbv) ?_
              intro js
              refine ⟨(_, _, _, _, _), ?_, js, rfl⟩
              refine ⟨⟨q3 + 1, hk4, by omega, ha4.symm, hb4.symm, hs4.symm, hxl4, hxg4⟩, ?_⟩
              show N - k4.toNat < N - k3.toNat
              simp only [nc] at *
              omega
end Go.Proofs.Ytodobmkflimfkaa
namespace Go.Proofs.Ytodobmkflimfkaa
open Go Go.Sx Go.Proofs
set_option maxRecDepth 10000
set_option maxHeartbeats 40000000
theorem write_bad (l : List Int) (log : Int) (cap : Nat) (hl : ∀ c ∈ l, isI16 c) (hlog : -9223372036854775808 ≤ log ∧ log ≤ 9223372036854775807) (hR : ¬ Right l log) :
    Con Try.prog 21 [.slice 0 .z 1 l.length cap, .int .i64 log] [.ro .i16 l] (fun v H R => R = [] ∧ v = .tup [.val (.slice none 0 0), .int .i64 70] ∧ H = [.ro .i16 l]) := by
  have hright := right_con l log cap hl hlog
  rw [show decide (Right l log) = false by simp [hR]] at hright
  refine con_gen (con_walk hmix fn21 ?_)
  intro vb vc vw vtoN vofN vaddN vsubN vmaxI vminI vcutN vgd vst vln vrep vsub vonto vsplice vstrEq vbyteV vnotB veqB hw qb qc qw qtoN qofN qaddN qsubN qmaxI qminI qcutN qgd qst qln qrep qsub qonto qsplice qstrEq qbyteV qnotB qeqB
  have hm := hmix; generalize Try.prog = P at *
  have hnb : vnotB false = true := by simp only [qnotB]; rfl
  generalize l.length = n at *
  cbv
  refine call_con (ρ := [(0, .z)]) hright ⟨by rfl, by rfl, by rfl, by cbv; exact ⟨view_refl _, trivial⟩⟩ ?_
  rintro v H R js ⟨rfl, rfl, rfl⟩
  cbv
  rw [hnb]
  cbv
theorem refwrite_bad (l : List Int) (log : Int) (cap : Nat) (hl : ∀ c ∈ l, isI16 c) (hlog : -9223372036854775808 ≤ log ∧ log ≤ 9223372036854775807) (hR : ¬ Right l log) :
    Con Try.prog 22 [.slice 0 .z 1 l.length cap, .int .i64 log] [.ro .i16 l] (fun v H R => R = [] ∧ v = .tup [.val (.slice none 0 0), .int .i64 70] ∧ H = [.ro .i16 l]) := by
  have hright := refright_con l log cap hl hlog
  rw [show decide (Right l log) = false by simp [hR]] at hright
  refine con_gen (con_walk hmix fn22 ?_)
  intro vb vc vw vtoN vofN vaddN vsubN vmaxI vminI vcutN vgd vst vln vrep vsub vonto vsplice vstrEq vbyteV vnotB veqB hw qb qc qw qtoN qofN qaddN qsubN qmaxI qminI qcutN qgd qst qln qrep qsub qonto qsplice qstrEq qbyteV qnotB qeqB
  have hm := hmix; generalize Try.prog = P at *
  have hnb : vnotB false = true := by simp only [qnotB]; rfl
  generalize l.length = n at *
  cbv
  refine call_con (ρ := [(0, .z)]) hright ⟨by rfl, by rfl, by rfl, by cbv; exact ⟨view_refl _, trivial⟩⟩ ?_
  rintro v H R js ⟨rfl, rfl, rfl⟩
  cbv
  rw [hnb]
  cbv
theorem table_bad (l : List Int) (log : Int) (cap : Nat) (hl : ∀ c ∈ l, isI16 c) (hlog : -9223372036854775808 ≤ log ∧ log ≤ 9223372036854775807) (hR : ¬ Right l log) :
    Con Try.prog 23 [.slice 0 .z 1 l.length cap, .int .i64 log] [.ro .i16 l] (fun v H R => R = [] ∧ v = .tup [.val (.slice none 0 0), .int .i64 70] ∧ H = [.ro .i16 l]) := by
  have hright := right_con l log cap hl hlog
  rw [show decide (Right l log) = false by simp [hR]] at hright
  refine con_gen (con_walk hmix fn23 ?_)
  intro vb vc vw vtoN vofN vaddN vsubN vmaxI vminI vcutN vgd vst vln vrep vsub vonto vsplice vstrEq vbyteV vnotB veqB hw qb qc qw qtoN qofN qaddN qsubN qmaxI qminI qcutN qgd qst qln qrep qsub qonto qsplice qstrEq qbyteV qnotB qeqB
  have hm := hmix; generalize Try.prog = P at *
  have hnb : vnotB false = true := by simp only [qnotB]; rfl
  generalize l.length = n at *
  cbv
  refine call_con (ρ := [(0, .z)]) hright ⟨by rfl, by rfl, by rfl, by cbv; exact ⟨view_refl _, trivial⟩⟩ ?_
  rintro v H R js ⟨rfl, rfl, rfl⟩
  cbv
  rw [hnb]
  cbv
theorem reftable_bad (l : List Int) (log : Int) (cap : Nat) (hl : ∀ c ∈ l, isI16 c) (hlog : -9223372036854775808 ≤ log ∧ log ≤ 9223372036854775807) (hR : ¬ Right l log) :
    Con Try.prog 24 [.slice 0 .z 1 l.length cap, .int .i64 log] [.ro .i16 l] (fun v H R => R = [] ∧ v = .tup [.val (.slice none 0 0), .int .i64 70] ∧ H = [.ro .i16 l]) := by
  have hright := refright_con l log cap hl hlog
  rw [show decide (Right l log) = false by simp [hR]] at hright
  refine con_gen (con_walk hmix fn24 ?_)
  intro vb vc vw vtoN vofN vaddN vsubN vmaxI vminI vcutN vgd vst vln vrep vsub vonto vsplice vstrEq vbyteV vnotB veqB hw qb qc qw qtoN qofN qaddN qsubN qmaxI qminI qcutN qgd qst qln qrep qsub qonto qsplice qstrEq qbyteV qnotB qeqB
  have hm := hmix; generalize Try.prog = P at *
  have hnb : vnotB false = true := by simp only [qnotB]; rfl
  generalize l.length = n at *
  cbv
  refine call_con (ρ := [(0, .z)]) hright ⟨by rfl, by rfl, by rfl, by cbv; exact ⟨view_refl _, trivial⟩⟩ ?_
  rintro v H R js ⟨rfl, rfl, rfl⟩
  cbv
  rw [hnb]
  cbv
theorem cells_nil : Con Try.prog 25 [.val (.slice none 0 0), .val (.slice none 0 0)] [] (fun v H R => v = .bool true ∧ H = [] ∧ R = []) := by
  have hT : TabOk Try.prog [] := trivial
  refine con_gen (con_run 100 [] hmix hT fn25 ?_)
  generalize Try.prog = P at *
  cbv
theorem cells_con (N : Nat) (hN : N ≤ 4096) (a b c a2 b2 c2 : Nat → Int) (ha : ∀ m, m < N → a m = a2 m) (hb : ∀ m, m < N → b m = b2 m) (hc : ∀ m, m < N → c m = c2 m) :
    Con Try.prog 25 [.slice 0 .z 3 N N, .slice 1 .z 3 N N] [.arr 65 3 N (fun m => [.int .u8 (a m), .int .u8 (b m), .int .u16 (c m)]), .arr 65 3 N (fun m => [.int .u8 (a2 m), .int .u8 (b2 m), .int .u16 (c2 m)])]
      (fun v H R => v = .bool true ∧ H = [.arr 65 3 N (fun m => [.int .u8 (a m), .int .u8 (b m), .int .u16 (c m)]), .arr 65 3 N (fun m => [.int .u8 (a2 m), .int .u8 (b2 m), .int .u16 (c2 m)])] ∧ R = []) := by
  refine con_gen (con_walk hmix fn25 ?_)
  intro vb vc vw vtoN vofN vaddN vsubN vmaxI vminI vcutN vgd vst vln vrep vsub vonto vsplice vstrEq vbyteV vnotB veqB hw qb qc qw qtoN qofN qaddN qsubN qmaxI qminI qcutN qgd qst qln qrep qsub qonto qsplice qstrEq qbyteV qnotB qeqB
  have hm := hmix; generalize Try.prog = P at *
  have hto : ∀ i : Nat, vtoN (i : Int) = i := fun i => by simp only [qtoN, Int.toNat_natCast]
  have h1 : vc .neq (vofN N) (vofN N) = false := by rw [qc, neq_false]; simp
  have hself : ∀ x, vc .eql x x = true := fun x => by rw [qc, eql_true]
  cbv
  rw [h1]
  cbv
  refine loop_fam (α := Int) ([5] ++ [14, 15, 16, 17, 18, 19, 20, 21, 22, 23, 24, 25]) [] (fun k => [(13, .int .i64 k)]) (fun _ => []) (fun k => ∃ i : Nat, k = i ∧ i ≤ N) (fun k => N - k.toNat) hw hm ?_ ?_
  · refine Cv.genAt [13] [] (Cv.fold ([5] ++ [14, 15, 16, 17, 18, 19, 20, 21, 22, 23, 24, 25]) 2 [] (by exact Nat.le_refl _) (by exact Nat.le_of_ble_eq_true rfl) (by rfl) (by cbv) ?_)
    intro js
    refine ⟨_, ?_, js, rfl⟩
    exact ⟨0, rfl, by omega⟩
  · rintro k js ⟨i, hk, hi⟩
    cbv
    split
    · rename_i hlt
      have hlt : i < N := by rw [qc, lss_true] at hlt; simp only [qofN] at hlt; simp only [nc] at *; omega
      have hti : vtoN k = i := by rw [hk]; exact hto i
      have hinR : 0 ≤ k ∧ k < (N : Int) := by simp only [nc] at *; omega
      obtain ⟨k1, hk1⟩ : ∃ k1 : Int, k1 = ((i + 1 : Nat) : Int) := ⟨_, rfl⟩
      have ek : vb .add .i64 k 1 = k1 := by simp only [nc] at *; rw [qb, add_i64 (by omega) (by omega)]; omega
      have hmu : N - k1.toNat < N - k.toNat := by simp only [nc] at *; omega
      have e1 := ha i hlt
      have e2 := hb i hlt
      have e3 := hc i hlt
      cbv
      rw [hti, e1, hself]
      refine ⟨⟨hinR⟩, ⟨hlt⟩, ⟨hlt⟩, ⟨hlt⟩, ⟨hinR⟩, ⟨hlt⟩, ⟨hlt⟩, ⟨hlt⟩, ?_⟩
      cbv
      rw [e2, hself]
      cbv
      rw [e3, hself]
      cbv
      rw [ek]
      refine Cv.fold ([5] ++ [14, 15, 16, 17, 18, 19, 20, 21, 22, 23, 24, 25]) 2 [] (by exact Nat.le_refl _) (by exact Nat.le_of_ble_eq_true rfl) (by rfl) (by cbv) ?_
      intro js
      refine ⟨_, ?_, js, rfl⟩
      exact ⟨⟨i + 1, hk1, hlt⟩, hmu⟩
    · cbv
end Go.Proofs.Ytodobmkflimfkaa
