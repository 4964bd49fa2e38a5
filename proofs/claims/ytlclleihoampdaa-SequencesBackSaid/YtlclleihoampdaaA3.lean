import Derived.Test.YtlclleihoampdaaA1
import Derived.Test.YtlclleihoampdaaA2
import Derived.Test.YtlclleihoampdaaED
set_option linter.unusedVariables false
set_option linter.unusedSimpArgs false
namespace Go.Proofs.Ytlclleihoampdaa
open Go Go.Sx Go.Proofs
set_option maxRecDepth 10000
set_option maxHeartbeats 4000000
def ofK (first low : Int) (g bl : List Int) (c : Int) : Int × Int := if c < first then (c + low, 0) else (g.getD (c - first).toNat 0, bl.getD (c - first).toNat 0)
theorem of_con (first low c : Int) (g bl : List Int) (m cap : Nat) (hg : g.length = 32) (hbm : bl.length = m) (hm2 : m ≤ 32) (hc : 0 ≤ c) (hf : 0 ≤ first) (hc2 : c < first + m) (hlow : 0 ≤ low) (hb : first + m + low < 1000000) :
  Con Try.prog 90 [.int .i64 c, .ptr 0 .z 1 0, .ptr 1 .z 1 0, .ptr 2 .z 1 0, .ptr 3 .z 1 0] [.one 3 [.int .i64 first], .one 3 [.int .i64 low], .ints 173 .i64 g, .one 63 [.slice 4 .z 1 m cap], .ints 3 .i64 bl]
   (fun v H R => v = .tup [.int .i64 (ofK first low g bl c).1, .int .i64 (ofK first low g bl c).2] ∧ H = [.one 3 [.int .i64 first], .one 3 [.int .i64 low], .ints 173 .i64 g, .one 63 [.slice 4 .z 1 m cap], .ints 3 .i64 bl] ∧ R = []) := by
 refine con_gen (con_walk hmix fn90 ?_)
 intro vb vc vw vtoN vofN vaddN vsubN vmaxI vminI vcutN vgd vst vln vrep vsub vonto vsplice vstrEq vbyteV vnotB veqB hw qb qc qw qtoN qofN qaddN qsubN qmaxI qminI qcutN qgd qst qln qrep qsub qonto qsplice qstrEq qbyteV qnotB qeqB
 have hm := hmix; generalize Try.prog = P at *
 obtain ⟨p, hp⟩ : ∃ p, p = ofK first low g bl c := ⟨_, rfl⟩
 rw [← hp]
 unfold ofK at hp
 have hln : vln g = 32 := by simp only [qln]; exact hg
 have hlb : vln bl = m := by simp only [qln]; exact hbm
 by_cases h : c < first
 ·have h1 : vc .lss c first = true := by rw [qc, lss_true]; exact h
  have h2 : vb .add .i64 c low = c + low := by rw [qb]; exact add_i64 (by omega) (by omega)
  obtain ⟨s, hs⟩ : ∃ s, s = c + low := ⟨_, rfl⟩
  rw [if_pos h, ← hs] at hp
  rw [← hs] at h2
  subst hp
  cbv
  rw [h1]
  cbv
  rw [h2]
  trivial
 ·have h1 : vc .lss c first = false := by rw [qc, lss_false]; exact h
  obtain ⟨k, hk⟩ : ∃ k : Nat, c - first = k := ⟨(c - first).toNat, by omega⟩
  obtain ⟨ki, hki⟩ : ∃ ki : Int, ki = k := ⟨_, rfl⟩
  have h2 : vb .sub .i64 c first = ki := by rw [qb, hki, ← hk]; exact sub_i64 (by omega) (by omega)
  have h3 : vtoN ki = k := by simp only [qtoN]; rw [hki]; exact Int.toNat_natCast k
  have h4 : vaddN 0 k = k := by simp only [qaddN]; omega
  have hin : 0 ≤ ki ∧ ki < 32 := by omega
  have hin2 : 0 ≤ ki ∧ ki < (m : Int) := by omega
  have hkm : k < m := by omega
  obtain ⟨x, hx⟩ : ∃ x, x = g.getD k 0 := ⟨_, rfl⟩
  obtain ⟨y, hy⟩ : ∃ y, y = bl.getD k 0 := ⟨_, rfl⟩
  have h5 : vgd g k = x := by simp only [qgd]; exact hx.symm
  have h6 : vgd bl k = y := by simp only [qgd]; exact hy.symm
  rw [if_neg h, hk, Int.toNat_natCast, ← hx, ← hy] at hp
  have hk32 : k < 32 := by omega
  subst hp
  cbv
  rw [h1]
  cbv
  rw [h2, h3]
  refine ⟨⟨hin⟩, ⟨by rw [hln]; exact hk32⟩, ?_⟩
  rw [h5]
  refine ⟨⟨hin2⟩, ⟨by rw [hlb]; exact hkm⟩, ?_⟩
  rw [h6]
  trivial
theorem least_con (l : List Int) (cap : Nat) (v : Int) (n : Nat) (hn : 1 ≤ n) (hl : n ≤ l.length) (hl2 : n ≤ 1000000) :
  Con Try.prog 92 [.slice 0 .z 1 n cap, .int .i64 v] [.ro .i64 l] (fun r H R => H = [.ro .i64 l] ∧ R = [] ∧ ∃ (ai : Int) (a : Nat), r = .int .i64 ai ∧ ai = a ∧ a < n ∧ (a = 0 ∨ l.getD a 0 ≤ v) ∧ (a + 1 = n ∨ v < l.getD (a + 1) 0)) := by
 refine con_gen (con_walk hmix fn92 ?_)
 intro vb vc vw vtoN vofN vaddN vsubN vmaxI vminI vcutN vgd vst vln vrep vsub vonto vsplice vstrEq vbyteV vnotB veqB hw qb qc qw qtoN qofN qaddN qsubN qmaxI qminI qcutN qgd qst qln qrep qsub qonto qsplice qstrEq qbyteV qnotB qeqB
 have hm := hmix; generalize Try.prog = P at *
 have hofn : ∀ n, vofN n = (n : Int) := fun n => by simp only [qofN]
 have hto : ∀ i : Nat, vtoN (i : Int) = i := fun i => by simp only [qtoN, Int.toNat_natCast]
 have hadd0 : ∀ i, vaddN 0 i = i := fun i => by simp only [qaddN, Nat.zero_add]
 have hln : ∀ l, vln l = l.length := fun l => by simp only [qln]
 obtain ⟨N, hN⟩ : ∃ N : Int, N = n := ⟨_, rfl⟩
 have eN : vofN n = N := by rw [hofn, hN]
 cbv
 rw [eN]
 refine loop_fam (α := Int × Int × Nat × Nat) ([7] ++ (List.range' 10 16)) [] (fun (x, y, a, b) => [(5, .int .i64 x), (6, .int .i64 y)]) (fun _ => [])
  (fun (x, y, a, b) => x = a ∧ y = b ∧ a < b ∧ b ≤ n ∧ (a = 0 ∨ l.getD a 0 ≤ v) ∧ (b = n ∨ v < l.getD b 0)) (fun (x, y, a, b) => b - a) hw hm ?_ ?_
 ·refine Cv.genAt [5] [] (Cv.fold ([7] ++ (List.range' 10 16)) 1 [] (by exact Nat.le_refl _) (by exact Nat.le_of_ble_eq_true rfl) (by rfl) (by cbv) ?_)
  intro js
  refine ⟨(0, N, 0, n), ?_, js, rfl⟩
  exact ⟨rfl, hN, hn, Nat.le_refl _, .inl rfl, .inl rfl⟩
 ·rintro ⟨x, y, a, b⟩ js ⟨hx, hy, hab, hbn, ha, hb⟩
  obtain ⟨d, hd⟩ : ∃ d : Int, d = y - x := ⟨_, rfl⟩
  have ed : vb .sub .i64 y x = d := by rw [qb, hd]; exact sub_i64 (by omega) (by omega)
  by_cases h : 1 < b - a
  ·have h1 : vc .gtr d 1 = true := by rw [qc, gtr_true]; omega
   obtain ⟨s, hs⟩ : ∃ s : Int, s = x + y := ⟨_, rfl⟩
   have es : vb .add .i64 x y = s := by rw [qb, hs]; exact add_i64 (by omega) (by omega)
   obtain ⟨m, hm0⟩ : ∃ m : Nat, m = (a + b) / 2 := ⟨_, rfl⟩
   obtain ⟨mi, hmi⟩ : ∃ mi : Int, mi = m := ⟨_, rfl⟩
   have em : vb .quo .i64 s 2 = mi := by
    rw [qb, hmi, hm0, hs, hx, hy]
    show IntKind.i64.wrap (((a : Int) + b).tdiv 2) = _
    rw [Int.tdiv_eq_ediv_of_nonneg (by omega)]
    exact wrap_i64 (by omega) (by omega)
   have hm1 : a < m ∧ m < b := by omega
   have emt : vtoN mi = m := by rw [hmi]; exact hto m
   obtain ⟨z, hz⟩ : ∃ z, z = l.getD m 0 := ⟨_, rfl⟩
   have eg : vgd l m = z := by simp only [qgd]; exact hz.symm
   have hin : 0 ≤ mi ∧ mi < (n : Int) := by omega
   have hmu1 : b - m < b - a := by omega
   have hmu2 : m - a < b - a := by omega
   have hlt1 : vaddN 0 m < vln l := by rw [hadd0, hln]; omega
   have hlt2 : m < vln l := by rw [hln]; omega
   have hma : m < b ∧ b ≤ n ∧ a < m ∧ m ≤ n := by omega
   cbv
   rw [ed, h1]
   cbv
   rw [es, em, emt]
   refine ⟨⟨hin⟩, ⟨hlt1⟩, ⟨hlt2⟩, ?_⟩
   rw [eg]
   cases hle : vc .leq z v
   ·rw [qc, leq_false] at hle
    cbv
    refine Cv.fold ([7] ++ (List.range' 10 16)) 1 [] (by exact Nat.le_refl _) (by exact Nat.le_of_ble_eq_true rfl) (by rfl) (by cbv) ?_
    intro js
    refine ⟨(x, mi, a, m), ?_, js, rfl⟩
    exact ⟨⟨hx, hmi, hma.2.2.1, hma.2.2.2, ha, .inr (by rw [← hz]; omega)⟩, hmu2⟩
   ·rw [qc, leq_true] at hle
    cbv
    refine Cv.fold ([7] ++ (List.range' 10 16)) 1 [] (by exact Nat.le_refl _) (by exact Nat.le_of_ble_eq_true rfl) (by rfl) (by cbv) ?_
    intro js
    refine ⟨(mi, y, m, b), ?_, js, rfl⟩
    exact ⟨⟨hmi, hy, hma.1, hma.2.1, .inr (by rw [← hz]; exact hle), hb⟩, hmu1⟩
  ·have h1 : vc .gtr d 1 = false := by rw [qc, gtr_false]; omega
   have hb1 : a + 1 = b ∧ a < n := by omega
   cbv
   rw [ed, h1]
   cbv
   refine ⟨x, a, rfl, hx, hb1.2, ha, ?_⟩
   rw [hb1.1]
   exact hb
theorem code_con (first low v : Int) (g bl : List Int) (m cap : Nat) (hg : g.length = 32) (hbm : bl.length = m) (hm1 : 1 ≤ m) (hm2 : m ≤ 32) (hv : 0 ≤ v ∧ v < 1000000000) (hf : 0 ≤ first ∧ first ≤ 100) (hlow : 0 ≤ low ∧ low < 1000) (hg0 : g.getD 0 0 = first + low) :
  Con Try.prog 91 [.int .i64 v, .ptr 0 .z 1 0, .ptr 1 .z 1 0, .ptr 2 .z 1 0, .ptr 3 .z 1 0] [.ints 173 .i64 g, .one 3 [.int .i64 low], .one 3 [.int .i64 first], .one 63 [.slice 4 .z 1 m cap], .ints 3 .i64 bl]
   (fun r H R => H = [.ints 173 .i64 g, .one 3 [.int .i64 low], .one 3 [.int .i64 first], .one 63 [.slice 4 .z 1 m cap], .ints 3 .i64 bl] ∧ R = [] ∧ ∃ c : Int, r = .int .i64 c ∧
    ((v < first + low ∧ c = v - low) ∨ (first + low ≤ v ∧ ∃ a : Nat, a < m ∧ c = first + a ∧ g.getD a 0 ≤ v ∧ (a + 1 = m ∨ v < g.getD (a + 1) 0)))) := by
 have hleast := least_con g 32 v m hm1 (by omega) (by omega)
 refine con_gen (con_walk hmix fn91 ?_)
 intro vb vc vw vtoN vofN vaddN vsubN vmaxI vminI vcutN vgd vst vln vrep vsub vonto vsplice vstrEq vbyteV vnotB veqB hw qb qc qw qtoN qofN qaddN qsubN qmaxI qminI qcutN qgd qst qln qrep qsub qonto qsplice qstrEq qbyteV qnotB qeqB
 have hm := hmix; generalize Try.prog = P at *
 have hofn : ∀ n, vofN n = (n : Int) := fun n => by simp only [qofN]
 have hto : ∀ i : Nat, vtoN (i : Int) = i := fun i => by simp only [qtoN, Int.toNat_natCast]
 obtain ⟨G, hG⟩ : ∃ G, G = g.getD 0 0 := ⟨_, rfl⟩
 have hln : vln g = 32 := by simp only [qln]; exact hg
 have hvg : vgd g 0 = G := by simp only [qgd]; exact hG.symm
 have hl0 : 0 < vln g := by omega
 by_cases h : v < first + low
 ·have h1 : vc .lss v G = true := by rw [qc, lss_true]; omega
  obtain ⟨c, hc⟩ : ∃ c, c = v - low := ⟨_, rfl⟩
  have h2 : vb .sub .i64 v low = c := by rw [qb, hc]; exact sub_i64 (by omega) (by omega)
  cbv
  refine ⟨⟨by decide⟩, ⟨hl0⟩, ?_⟩
  rw [hvg, h1]
  cbv
  rw [h2]
  exact ⟨c, rfl, .inl ⟨h, hc⟩⟩
 ·have h1 : vc .lss v G = false := by rw [qc, lss_false]; omega
  obtain ⟨M, hM⟩ : ∃ M : Int, M = m := ⟨_, rfl⟩
  have eM : vofN m = M := by rw [hofn, hM]
  have etM : vtoN M = m := by rw [hM]; exact hto m
  have hin : 0 ≤ M ∧ M ≤ 32 := by omega
  cbv
  refine ⟨⟨by decide⟩, ⟨hl0⟩, ?_⟩
  rw [hvg, h1]
  cbv
  rw [eM, etM]
  refine ⟨⟨hin⟩, ?_⟩
  refine call_con (ρ := [(0, .z)]) hleast ⟨by rfl, by rfl, by rfl, by cbv; exact ⟨view_refl _, trivial⟩⟩ ?_
  rintro r H R js ⟨rfl, rfl, ai, a, rfl, hai, ha, h3, h4⟩
  have hai : ai = (a : Int) := hai
  obtain ⟨c, hc⟩ : ∃ c : Int, c = first + ai := ⟨_, rfl⟩
  have h2 : vb .add .i64 first ai = c := by rw [qb, hc]; exact add_i64 (by omega) (by omega)
  have hga : g.getD a 0 ≤ v := by
   rcases h3 with rfl | h3
   ·omega
   ·exact h3
  have hfin : first + low ≤ v := by omega
  have hca : c = first + (a : Int) := by rw [hc, hai]
  cbv
  rw [h2]
  exact ⟨c, rfl, .inr ⟨hfin, a, ha, hca, hga, h4⟩⟩
theorem ofB_con (c : Int) (hc : 0 ≤ c ∧ c ≤ 60) : Con Try.prog 64 [.int .i64 c] [] (fun v H R => v = .tup [.int .i64 (2 ^ c.toNat), .int .i64 c] ∧ H = [] ∧ R = []) := by
 refine con_gen (con_walk hmix fn64 ?_)
 intro vb vc vw vtoN vofN vaddN vsubN vmaxI vminI vcutN vgd vst vln vrep vsub vonto vsplice vstrEq vbyteV vnotB veqB hw qb qc qw qtoN qofN qaddN qsubN qmaxI qminI qcutN qgd qst qln qrep qsub qonto qsplice qstrEq qbyteV qnotB qeqB
 have hm := hmix; generalize Try.prog = P at *
 obtain ⟨p, hp⟩ : ∃ p : Int, p = 2 ^ c.toNat := ⟨_, rfl⟩
 have e1 : vw .u64 c = c := by rw [qw]; exact wrap_u64 (by omega) (by omega)
 have e2 : vb .shl .i64 1 c = p := by rw [qb, hp]; exact one_shl62 hc.1 (by omega)
 have hnn : 0 ≤ c := hc.1
 rw [← hp]
 cbv
 rw [e1]
 refine ⟨⟨hnn⟩, ?_⟩
 rw [e2]
 trivial
theorem codeB_con (v : Int) (hv : 1 ≤ v ∧ v < 1000000000000) : Con Try.prog 65 [.int .i64 v] [] (fun r H R => H = [] ∧ R = [] ∧ ∃ (c : Int) (n : Nat), r = .int .i64 c ∧ c = n ∧ n ≤ 60 ∧ (2 : Int) ^ n ≤ v ∧ v < 2 ^ (n + 1)) := by
 refine con_gen (con_walk hmix fn65 ?_)
 intro vb vc vw vtoN vofN vaddN vsubN vmaxI vminI vcutN vgd vst vln vrep vsub vonto vsplice vstrEq vbyteV vnotB veqB hw qb qc qw qtoN qofN qaddN qsubN qmaxI qminI qcutN qgd qst qln qrep qsub qonto qsplice qstrEq qbyteV qnotB qeqB
 have hm := hmix; generalize Try.prog = P at *
 cbv
 refine loop_fam (α := Int × Int × Nat) ([4, 5, 6, 7, 8, 9]) [] (fun (x, y, n) => [(0, .int .i64 x), (3, .int .i64 y)]) (fun _ => [])
  (fun (x, y, n) => y = n ∧ n ≤ 60 ∧ 1 ≤ x ∧ x < 1000000000000 ∧ (x : Int) * 2 ^ n ≤ v ∧ v < (x + 1) * 2 ^ n) (fun (x, y, n) => x.toNat) hw hm ?_ ?_
 ·refine Cv.genAt [3] [] (Cv.fold ([4, 5, 6, 7, 8, 9]) 0 [] (by exact Nat.le_refl _) (by exact Nat.le_of_ble_eq_true rfl) (by rfl) (by cbv) ?_)
  intro js
  refine ⟨(v, 0, 0), ?_, js, rfl⟩
  exact ⟨rfl, by omega, hv.1, hv.2, by simp, by simp; omega⟩
 ·rintro ⟨x, y, n⟩ js ⟨hy, hn, hx1, hx2, hlo, hhi⟩
  by_cases h : 1 < x
  ·have h1 : vc .gtr x 1 = true := by rw [qc, gtr_true]; exact h
   obtain ⟨q, hq⟩ : ∃ q : Int, q = x / 2 := ⟨_, rfl⟩
   have h2 : vb .quo .i64 x 2 = q := by
    rw [qb, hq]
    show IntKind.i64.wrap (x.tdiv 2) = _
    rw [Int.tdiv_eq_ediv_of_nonneg (by omega)]
    exact wrap_i64 (by omega) (by omega)
   obtain ⟨y1, hy1⟩ : ∃ y1 : Int, y1 = y + 1 := ⟨_, rfl⟩
   have h3 : vb .add .i64 y 1 = y1 := by rw [qb, hy1]; exact add_i64 (by omega) (by omega)
   have hmu : q.toNat < x.toNat := by omega
   have hp : (0 : Int) < 2 ^ n := Int.pow_pos (by decide)
   have hq1 : q * 2 ^ (n + 1) ≤ v := by
    have e : q * 2 ^ (n + 1) = (2 * q) * 2 ^ n := by rw [Int.pow_succ, Int.mul_comm 2 q, Int.mul_assoc, Int.mul_comm (2 ^ n) 2]
    rw [e]
    exact Int.le_trans (Int.mul_le_mul_of_nonneg_right (by omega) (by omega)) hlo
   have hq2 : v < (q + 1) * 2 ^ (n + 1) := by
    have e : (q + 1) * 2 ^ (n + 1) = (2 * q + 2) * 2 ^ n := by rw [Int.pow_succ, show 2 * q + 2 = (q + 1) * 2 by omega, Int.mul_assoc, Int.mul_comm (2 ^ n) 2]
    rw [e]
    exact Int.lt_of_lt_of_le hhi (Int.mul_le_mul_of_nonneg_right (by omega) (by omega))
   have hn60 : n + 1 ≤ 60 := by
    by_cases h60 : n ≤ 58
    ·omega
    ·exfalso
     have : (2 : Int) ^ 58 ≤ 2 ^ n := by exact_mod_cast Nat.pow_le_pow_right (by decide) (by omega : 58 ≤ n)
     have h7 : 1 * (2 : Int) ^ n ≤ x * 2 ^ n := Int.mul_le_mul_of_nonneg_right (by omega) (by omega)
     have h8 : (2 : Int) ^ 58 = 288230376151711744 := by decide
     omega
   have hinv : y1 = ((n + 1 : Nat) : Int) ∧ n + 1 ≤ 60 ∧ 1 ≤ q ∧ q < 1000000000000 ∧ q * 2 ^ (n + 1) ≤ v ∧ v < (q + 1) * 2 ^ (n + 1) := ⟨by omega, hn60, by omega, by omega, hq1, hq2⟩
   cbv
   rw [h1]
   cbv
   rw [h2, h3]
   refine Cv.fold ([4, 5, 6, 7, 8, 9]) 0 [] (by exact Nat.le_refl _) (by exact Nat.le_of_ble_eq_true rfl) (by rfl) (by cbv) ?_
   intro js
   refine ⟨(q, y1, n + 1), ?_, js, rfl⟩
   exact ⟨hinv, hmu⟩
  ·have h1 : vc .gtr x 1 = false := by rw [qc, gtr_false]; exact h
   obtain rfl : x = 1 := by omega
   have hfin : y = (n : Int) ∧ n ≤ 60 ∧ (2 : Int) ^ n ≤ v ∧ v < 2 ^ (n + 1) := ⟨hy, hn, by omega, by rw [Int.pow_succ]; omega⟩
   cbv
   rw [h1]
   cbv
   exact ⟨y, n, rfl, hfin⟩
end Go.Proofs.Ytlclleihoampdaa
namespace Go.Proofs.Ytlclleihoampdaa
open Go Go.Sx Go.Proofs
set_option maxRecDepth 10000
set_option maxHeartbeats 40000000
theorem read_raw (b : List Int) (cap : Nat) (ml ms : Int) (hby : ∀ x ∈ b, isByte x) (hl : b.length ≤ 140737488355328) (hml : -9223372036854775808 ≤ ml ∧ ml ≤ 9223372036854775807) (hms : -9223372036854775808 ≤ ms ∧ ms ≤ 9223372036854775807)
  (cs0 : List Int) (log0 used0 e0 : Int) (hR : readR b ml ms = (cs0, log0, used0, e0)) :
  Con Try.prog 70 [.slice 0 .z 1 b.length cap, .int .i64 ml, .int .i64 ms] [.ro .u8 b] (fun v H R => dropN 1 R = [] ∧ 1 ≤ H.length ∧ genH (H.take 1) = [.ro .u8 b] ∧
   ((e0 ≠ 0 ∧ gen v = .tup [.val (.slice none 0 0), .int .i64 0, .int .i64 0, .int .i64 e0]) ∨
    (e0 = 0 ∧ 6 ≤ H.length ∧ ∃ c c0 acc hv ai, gen v = .tup [.slice 5 .z 1 cs0.length c, .int .i64 log0, .int .i64 used0, .int .i64 0] ∧
     genH (H.take 6) = [.ro .u8 b, .buf 5 .u8 b c0, .one 25 [.slice 1 .z 1 b.length c0], .one 3 [.int .i64 ai], .one 215 [.fn 121 [.ptr 3 .z 1 0, .ptr 2 .z 1 0], .int .u64 acc, .int .i64 hv, .fn 122 [.ptr 2 .z 1 0, .ptr 3 .z 1 0]], .buf 124 .i16 cs0 c]))) := by
 have hnew := rnew_con b cap hl
 have hrd := @rd_rs b
 have hleft := @rleft_rs b
 have hlen := len_con
 have hparts := parts_con
 have hst0 := RS.start b
 refine con_walk hmix fn70 ?_
 intro vb vc vw vtoN vofN vaddN vsubN vmaxI vminI vcutN vgd vst vln vrep vsub vonto vsplice vstrEq vbyteV vnotB veqB hw qb qc qw qtoN qofN qaddN qsubN qmaxI qminI qcutN qgd qst qln qrep qsub qonto qsplice qstrEq qbyteV qnotB qeqB
 have hm := hmix; generalize Try.prog = P at *
 have hR : (if ml < 5 ∨ ml > 12 ∨ ms < 0 ∨ ms > 255 then ([], 0, 0, 2)
   else match rdN b 0 4 with
    | none => ([], 0, 0, 10)
    | some x => if x + 5 > ml then ([], 0, 0, 11) else
     if (readS b ms 600 false (2 ^ (x + 5).toNat) [] 4).1 ≠ 0 then ([], 0, 0, (readS b ms 600 false (2 ^ (x + 5).toNat) [] 4).1)
     else ((readS b ms 600 false (2 ^ (x + 5).toNat) [] 4).2.1, x + 5, ((readS b ms 600 false (2 ^ (x + 5).toNat) [] 4).2.2 + 7 : Int) / 8, 0)) = (cs0, log0, used0, e0) := hR
 generalize hbl : b.length = bl at *
 cbv
 generalize h1 : vc .lss ml 5 = z1
 cases z1
 rotate_left
 ·rw [qc, lss_true] at h1
  have he0 : e0 = 2 := by
   rw [if_pos (by omega)] at hR; simp only [Prod.mk.injEq] at hR; exact hR.2.2.2.symm
  cbv
  exact .inl ⟨by rw [he0]; decide, by rw [he0]⟩
 rw [qc, lss_false] at h1
 cbv
 generalize h2 : vc .gtr ml 12 = z2
 cases z2
 rotate_left
 ·rw [qc, gtr_true] at h2
  have he0 : e0 = 2 := by
   rw [if_pos (by omega)] at hR; simp only [Prod.mk.injEq] at hR; exact hR.2.2.2.symm
  cbv
  exact .inl ⟨by rw [he0]; decide, by rw [he0]⟩
 rw [qc, gtr_false] at h2
 cbv
 generalize h3 : vc .lss ms 0 = z3
 cases z3
 rotate_left
 ·rw [qc, lss_true] at h3
  have he0 : e0 = 2 := by
   rw [if_pos (by omega)] at hR; simp only [Prod.mk.injEq] at hR; exact hR.2.2.2.symm
  cbv
  exact .inl ⟨by rw [he0]; decide, by rw [he0]⟩
 rw [qc, lss_false] at h3
 cbv
 generalize h4 : vc .gtr ms 255 = z4
 cases z4
 rotate_left
 ·rw [qc, gtr_true] at h4
  have he0 : e0 = 2 := by
   rw [if_pos (by omega)] at hR; simp only [Prod.mk.injEq] at hR; exact hR.2.2.2.symm
  cbv
  exact .inl ⟨by rw [he0]; decide, by rw [he0]⟩
 rw [qc, gtr_false] at h4
 rw [if_neg (by omega)] at hR
 cbv
 refine call_con (ρ := [(0, .z)]) hnew ⟨by rfl, by rfl, by rfl, by cbv; exact ⟨view_refl _, trivial⟩⟩ ?_
 rintro v H R js ⟨rfl, rfl, c0, rfl⟩
 have hrd4 := hrd 0 c0 bl 4 0 0 0 rfl hby (by omega) hst0 (by omega)
 cbv
 refine call_con (ρ := [(4, .z), (3, .z), (2, .z), (1, .z)]) hrd4 ⟨by rfl, by rfl, by rfl, by cbv; exact ⟨view_refl _, trivial⟩⟩ ?_
 rintro v H R js2 ⟨rfl, acc2, hv2, ai2, x, e, pos2, rfl, hrs, hcase, rfl⟩
 cbv
 have h00 : vc .neq 0 0 = false := by rw [qc]; rfl
 have h100 : vc .neq 10 0 = true := by rw [qc]; rfl
 rcases hcase with ⟨rfl, hrd1, rfl, hx0, hx1⟩ | ⟨rfl, hrd1⟩
 rotate_left
 ·rw [h100]
  have he0 : e0 = 10 := by
   have hrd1 : rdN b 0 4 = none := hrd1
   rw [hrd1] at hR; simp only [Prod.mk.injEq] at hR; exact hR.2.2.2.symm
  cbv
  exact .inl ⟨by rw [he0]; decide, by rw [he0]⟩
 have hrd1 : rdN b 0 4 = some x := hrd1
 have hx1 : x < 16 := hx1
 rw [hrd1] at hR
 simp only at hR
 rw [h00]
 have ew1 : vw .i64 x = x := by rw [qw]; exact wrap_i64 (by omega) (by omega)
 have ea1 : vb .add .i64 x 5 = x + 5 := by rw [qb, add_i64 (by omega) (by omega)]
 obtain ⟨lg, hlg⟩ : ∃ lg : Int, lg = x + 5 := ⟨_, rfl⟩
 rw [← hlg] at ea1 hR
 cbv
 rw [ew1, ea1]
 generalize h5 : vc .gtr lg ml = z5
 cases z5
 rotate_left
 ·rw [qc, gtr_true] at h5
  have he0 : e0 = 11 := by
   rw [if_pos (by omega)] at hR; simp only [Prod.mk.injEq] at hR; exact hR.2.2.2.symm
  cbv
  exact .inl ⟨by rw [he0]; decide, by rw [he0]⟩
 rw [qc, gtr_false] at h5
 rw [if_neg (by omega)] at hR
 have e2 : vw .u64 lg = lg := by rw [qw]; exact wrap_u64 (by omega) (by omega)
 have e3 : vb .shl .i64 1 lg = 2 ^ lg.toNat := by rw [qb, one_shl (by omega) (by omega)]
 have hpl := pow_log (log := lg) (by omega)
 generalize hpw : (2 : Int) ^ lg.toNat = pw at *
 have hfuel : ∃ RES, readS b ms 600 false pw [] 4 = RES := ⟨_, rfl⟩
 obtain ⟨RES, hRES⟩ := hfuel
 rw [hRES] at hR
 have hbad : ∀ E : Int, E ≠ 0 → RES = (E, [], 0) → e0 = E := by
  intro E hE h
  rw [h] at hR
  simp only at hR
  rw [if_pos hE] at hR
  simp only [Prod.mk.injEq] at hR
  exact hR.2.2.2.symm
 have hgood : ∀ cs pos, RES = (0, cs, pos) → cs0 = cs ∧ log0 = lg ∧ used0 = ((pos : Int) + 7) / 8 ∧ e0 = 0 := by
  intro cs pos h
  rw [h] at hR
  simp only at hR
  rw [if_neg (by decide)] at hR
  simp only [Prod.mk.injEq] at hR
  exact ⟨hR.1.symm, hR.2.1.symm, hR.2.2.1.symm, hR.2.2.2.symm⟩
 clear hR hrd4 hrd1 hst0
 have hrS := readS.eq_def
 cbv
 rw [e2, e3]
 refine ⟨⟨by omega⟩, ?_⟩
 refine WX.cv (Cv.nilT 6 124 .i16 (by rfl) (by cbv; try exact ⟨fun _ => rfl, trivial⟩) (Cv.here ?_))
 cbv
 refine loop_fam (α := Nat × Int × List Int × Nat × Nat × Nat × Int × Int × Int) ([13, 14, 15, 16, 17, 18, 19, 20] ++ [54, 55, 56, 57, 58, 59, 60, 61, 62, 63, 64, 65, 66, 67, 68, 69, 70, 71, 72, 73, 74, 75, 76, 77, 78, 79, 80, 81, 82, 83, 84, 85, 86, 87, 88, 89, 90, 91, 92, 93, 94, 95, 96, 97, 98, 99, 100, 101, 102, 103, 104, 105, 106, 107, 108, 109, 110, 111, 112, 113, 114, 115, 116, 117, 118, 119, 120, 121, 122, 123, 124, 125, 126, 127, 128, 129, 130, 131, 132, 133, 134, 135, 136]) [5]
  (fun (f, left, cs, rl, c, pos, acc, hv, ai) => [(12, .int .i64 left), (6, .slice 5 .z 1 rl c)])
  (fun (f, left, cs, rl, c, pos, acc, hv, ai) => [(3, .one 3 [.int .i64 ai]), (4, .one 215 [.fn 121 [.ptr 3 .z 1 0, .ptr 2 .z 1 0], .int .u64 acc, .int .i64 hv, .fn 122 [.ptr 2 .z 1 0, .ptr 3 .z 1 0]]), (5, .buf 124 .i16 cs c)])
  (fun (f, left, cs, rl, c, pos, acc, hv, ai) => readS b ms f false left cs pos = RES ∧ 600 ≤ f + 2 * cs.length ∧ cs.length ≤ 256 ∧ rl = cs.length ∧ RS b pos acc hv ai ∧ left ≤ 4096)
  (fun (f, left, cs, rl, c, pos, acc, hv, ai) => f) hw hm ?_ ?_
 ·refine Cv.genAt [] [3, 4] (Cv.fold ([13, 14, 15, 16, 17, 18, 19, 20] ++ [54, 55, 56, 57, 58, 59, 60, 61, 62, 63, 64, 65, 66, 67, 68, 69, 70, 71, 72, 73, 74, 75, 76, 77, 78, 79, 80, 81, 82, 83, 84, 85, 86, 87, 88, 89, 90, 91, 92, 93, 94, 95, 96, 97, 98, 99, 100, 101, 102, 103, 104, 105, 106, 107, 108, 109, 110, 111, 112, 113, 114, 115, 116, 117, 118, 119, 120, 121, 122, 123, 124, 125, 126, 127, 128, 129, 130, 131, 132, 133, 134, 135, 136]) 6 [5] (by exact Nat.le_refl _) (by exact Nat.le_of_ble_eq_true rfl) (by rfl) (by cbv) ?_)
  intro js
  refine ⟨(600, _, _, _, _, 4, _, _, _), ?_, js, rfl⟩
  exact ⟨hRES, by omega, by simp, rfl, hrs, by omega⟩
 ·rintro ⟨f, left, cs, rl, c, pos, acc, hv, ai⟩ js ⟨hS, hf, hcl, hrl, hrs3, hle⟩
  obtain ⟨g, rfl⟩ : ∃ g, f = g + 1 := ⟨f - 1, by omega⟩
  have hofn : vofN rl = (rl : Int) := by simp only [qofN]
  rw [readS] at hS
  cbv
  split
  rotate_left
  ·rename_i hz
   rw [qc, gtr_false] at hz
   rw [if_pos (by omega)] at hS
   obtain ⟨rfl, rfl, hu, he0⟩ := hgood _ _ hS.symm
   have hlf := hleft pos c0 acc hv ai (by omega) hrs3
   have hposb : (pos : Int) ≤ 8 * bl := by
    obtain ⟨at', h1, h2, h3, _⟩ := hrs3
    simp only [nc] at *
    omega
   obtain ⟨lf, hlf1⟩ : ∃ lf : Int, lf = 8 * (bl : Int) - pos := ⟨_, rfl⟩
   simp only [nc] at hlf
   rw [← hlf1] at hlf
   have eq8 : vb .quo .i64 lf 8 = lf / 8 := by rw [qb, quo_i64 (by omega) (by omega) (by omega)]
   have hofb : vofN bl = (bl : Int) := by simp only [qofN]
   have eu : vb .sub .i64 (vofN bl) (lf / 8) = used0 := by rw [hofb, qb, sub_i64 (by omega) (by omega), hu]; simp only [nc] at *; omega
   cbv
   refine call_con (ρ := [(4, .z), (3, .z), (2, .z), (1, .z)]) hlf ⟨by rfl, by rfl, by rfl, by cbv; exact ⟨view_refl _, trivial⟩⟩ ?_
   rintro v H R js3 ⟨rfl, rfl, rfl⟩
   cbv
   rw [eq8, eu, hrl]
   exact .inr ⟨he0, c, c0, acc, hv, ai, rfl, rfl⟩
  ·rename_i hz
   rw [qc, gtr_true] at hz
   rw [if_neg (by omega)] at hS
   cbv
   generalize hz2 : vc .gtr (vofN rl) ms = z2
   cases z2
   rotate_left
   ·rw [qc, gtr_true, hofn] at hz2
    rw [if_pos (by simp only [nc] at *; omega)] at hS
    have he0 := hbad 11 (by decide) hS.symm
    cbv
    exact .inl ⟨by rw [he0]; decide, by rw [he0]⟩
   rw [qc, gtr_false, hofn] at hz2
   rw [if_neg (by simp only [nc] at *; omega)] at hS
   have ea : vb .add .i64 left 1 = left + 1 := by rw [qb, add_i64 (by omega) (by omega)]
   obtain ⟨mo, hmo⟩ : ∃ mo : Int, mo = left + 1 := ⟨_, rfl⟩
   rw [← hmo] at ea hS
   have eb : vw .u64 mo = mo := by rw [qw]; exact wrap_u64 (by omega) (by omega)
   have hl1 := hlen mo (by omega)
   have hmax := blen_max (x := mo) (by omega) (by omega)
   obtain ⟨mk, hmk, hmk1, hmk2⟩ := blen_spec (x := mo) (by omega)
   have hvA := fun v => @valR_low b pos mo v
   have hvB := fun v => @valR_none b pos mo v
   have hvC := fun v top => @valR_some b pos mo v top
   generalize valR b pos mo = VR at *
   generalize blen mo = mb at *
   have ec : vw .u64 mb = mb := by rw [qw]; exact wrap_u64 (by omega) (by omega)
   have ed : vb .shl .i64 1 mb = 2 ^ mb.toNat := by rw [qb, one_shl62 (by omega) (by omega)]
   have ee : vb .sub .i64 mb 1 = mb - 1 := by rw [qb, sub_i64 (by omega) (by omega)]
   have ee2 : vw .u64 (mb - 1) = mb - 1 := by rw [qw]; exact wrap_u64 (by omega) (by omega)
   have ef : vb .shl .u64 1 (mb - 1) = 2 ^ (mb - 1).toNat := by
    have e : (mb - 1).toNat = mk := by omega
    have e4 : mb - 1 = (mk : Int) := by omega
    rw [e, e4, qb]
    show IntKind.u64.wrap (1 * 2 ^ (min ((mk : Int).toNat) IntKind.u64.bits)) = 2 ^ mk
    have e2 : min ((mk : Int).toNat) IntKind.u64.bits = mk := by simp [IntKind.bits]; omega
    have hp : (2 : Int) ^ mk ≤ 2 ^ 12 := by exact_mod_cast Nat.pow_le_pow_right (by omega : 0 < 2) (by omega : mk ≤ 12)
    have hp0 : (0 : Int) < 2 ^ mk := Int.pow_pos (by omega)
    rw [e2, Int.one_mul]
    exact wrap_u64 (by omega) (by omega)
   have hpm : (2 : Int) ^ mb.toNat = 2 ^ (mk + 1) := by rw [hmk]; rfl
   have hmbt : (mb - 1).toNat = mk := by omega
   have hmbt2 : mb.toNat = mk + 1 := by omega
   have hpw2 : (2 : Int) ^ (mk + 1) = 2 * 2 ^ mk := by rw [Int.pow_succ]; omega
   rw [hpm, hpw2] at ed
   rw [hmbt] at ef hS
   simp only [hmbt, hmbt2, hpw2] at hvA hvB hvC
   rw [hpw2] at hmk2
   have hqq : (2 : Int) ^ mk ≤ 2 ^ 12 := by exact_mod_cast Nat.pow_le_pow_right (by omega : 0 < 2) (by omega : mk ≤ 12)
   have hrdm := hrd pos c0 bl (mb - 1) acc hv ai rfl hby (by omega) hrs3 (by omega)
   rw [hmbt] at hrdm
   generalize hq : (2 : Int) ^ mk = q at *
   have eg : vb .sub .i64 (2 * q) 1 = 2 * q - 1 := by rw [qb, sub_i64 (by omega) (by omega)]
   have eh : vb .sub .i64 (2 * q - 1) mo = 2 * q - 1 - mo := by rw [qb, sub_i64 (by omega) (by omega)]
   have ehw : vw .u64 (2 * q - 1 - mo) = 2 * q - 1 - mo := by rw [qw]; exact wrap_u64 (by omega) (by omega)
   have ei : vb .sub .u64 q (2 * q - 1 - mo) = q - (2 * q - 1 - mo) := by rw [qb]; show IntKind.u64.wrap _ = _; exact wrap_u64 (by omega) (by omega)
   obtain ⟨tt, htt⟩ : ∃ tt : Int, tt = 2 * q - 1 - mo := ⟨_, rfl⟩
   rw [← htt] at eh ehw ei
   simp only [hq, ← htt] at hvA hvB hvC
   generalize hq21 : 2 * q - 1 = q21 at *
   generalize hq2 : 2 * q = q2 at *
   generalize hmb1 : mb - 1 = mb1 at *
   cbv
   rw [ea, eb]
   refine call_con (ρ := []) hl1 ⟨by rfl, by rfl, by rfl, by cbv⟩ ?_
   rintro v H R js3 ⟨rfl, rfl, rfl⟩
   cbv
   rw [ec, ed, eg, ea, eh, ehw, ee]
   refine ⟨⟨by omega⟩, ?_⟩
   refine call_con (ρ := [(4, .z), (3, .z), (2, .z), (1, .z)]) hrdm ⟨by rfl, by rfl, by rfl, by cbv; exact ⟨view_refl _, trivial⟩⟩ ?_
   rintro v H R js4 ⟨rfl, acc3, hv3, ai3, v1, e1, pos3, rfl, hrs4, hcase, rfl⟩
   cbv
   rcases hcase with ⟨rfl, hrd1, rfl, hv0, hv1⟩ | ⟨rfl, hrd1⟩
   rotate_left
   ·rw [hrd1] at hS
    have he0 := hbad 10 (by decide) hS.symm
    rw [h100]
    cbv
    exact .inl ⟨by rw [he0]; decide, by rw [he0]⟩
   rw [hrd1] at hS
   simp only at hS
   rw [h00]
   cbv
   have hrd1b := fun acc hv ai h => hrd (pos + mk) c0 bl 1 acc hv ai rfl hby (by omega) h (by omega)
   generalize hz7 : vc .geq v1 tt = z7
   have hfin : ∀ (vv : Int) (pp : Nat), VR v1 = some (vv, pp) → (if vv - 1 ≠ 0 then readS b ms g false (left - partsN (vv - 1)) (cs ++ [vv - 1]) pp
     else if ((cs ++ [vv - 1]).length : Int) > ms then (11, [], 0) else readS b ms g true (left - partsN (vv - 1)) (cs ++ [vv - 1]) pp) = RES := by
    intro vv pp h
    rw [h] at hS
    exact hS
   cases z7
   rw [qc, geq_false] at hz7
   have hval : ∃ (vv : Int) (pp : Nat), vv = v1 ∧ pp = pos + mk ∧ VR v1 = some (vv, pp) ∧ 0 ≤ vv ∧ vv ≤ 8192 := ⟨_, _, rfl, rfl, hvA _ (by omega), by omega, by omega⟩
   obtain ⟨vv, pp, rfl, hpp, hvr, hvv0, hvv1⟩ := hval
   rw [← hpp] at hrs4
   have hrsF := hrs4
   cbv
   rotate_left
   rw [qc, geq_true] at hz7
   cbv
   refine call_con (ρ := [(4, .z), (3, .z), (2, .z), (1, .z)]) (hrd1b _ _ _ hrs4) ⟨by rfl, by rfl, by rfl, by cbv; exact ⟨view_refl _, trivial⟩⟩ ?_
   rintro v H R js5 ⟨rfl, accF, hvF, aiF, top, e2, pp, rfl, hrsF, hcase2, rfl⟩
   cbv
   rcases hcase2 with ⟨rfl, hrd2, hpp, ht0, ht1⟩ | ⟨rfl, hrd2⟩
   rotate_left
   ·rw [hvB _ (by omega) hrd2] at hS
    have he0 := hbad 10 (by decide) hS.symm
    rw [h100]
    cbv
    exact .inl ⟨by rw [he0]; decide, by rw [he0]⟩
   rotate_left
   have hvr := hvC _ _ (by omega) hrd2
   rw [h00]
   cbv
   generalize hz8 : vc .eql top 1 = z8
   cases z8
   rw [qc, eql_false] at hz8
   rw [if_neg hz8] at hvr
   have hval : ∃ (vv : Int), vv = v1 ∧ VR v1 = some (vv, pp) ∧ 0 ≤ vv ∧ vv ≤ 8192 := ⟨_, rfl, by rw [hvr, hpp]; rfl, by omega, by omega⟩
   clear hvr
   obtain ⟨vv, rfl, hvr, hvv0, hvv1⟩ := hval
   cbv
   rotate_left
   rw [qc, eql_true] at hz8
   rw [if_pos hz8] at hvr
   have ej : vb .add .u64 v1 (q - tt) = v1 + (q - tt) := by rw [qb, add_u64 (by omega) (by omega)]
   have hval : ∃ (vv : Int), vv = v1 + (q - tt) ∧ VR v1 = some (vv, pp) ∧ 0 ≤ vv ∧ vv ≤ 8192 := ⟨_, rfl, by rw [hvr, hpp]; rfl, by omega, by omega⟩
   clear hvr
   obtain ⟨vv, hvv, hvr, hvv0, hvv1⟩ := hval
   rw [← hvv] at ej
   cbv
   rw [ee, ee2, ef, ei, ej]
   refine ⟨⟨by omega⟩, ?_⟩
   all_goals
    have hS2 := hfin _ _ hvr
    clear hfin hS hvA hvB hvC
    have ek : vw .i16 vv = vv := by rw [qw]; exact wrap_i16 (by omega) (by omega)
    have el : vb .sub .i16 vv 1 = vv - 1 := by rw [qb]; show IntKind.i16.wrap _ = _; exact wrap_i16 (by omega) (by omega)
    obtain ⟨cc, hcc⟩ : ∃ cc : Int, cc = vv - 1 := ⟨_, rfl⟩
    rw [← hcc] at el hS2
    have hpc := hparts cc (by unfold isI16; omega)
    have hpn := partsN_le (c := cc) (by unfold isI16; omega)
    generalize partsN cc = pc at *
    have em : vb .sub .i64 left pc = left - pc := by rw [qb, sub_i64 (by omega) (by omega)]
    obtain ⟨left2, hl2⟩ : ∃ left2 : Int, left2 = left - pc := ⟨_, rfl⟩
    rw [← hl2] at em hS2
    have hvln : vln cs = rl := by simp only [qln, hrl]
    have hsub : vsub [cc] 0 1 = [cc] := by simp only [qsub]; rfl
    have honto : vonto cs rl [cc] = cs ++ [cc] := by rw [qonto, hrl]; simp
    have hln1 : vln [cc] = 1 := by simp only [qln]; rfl
    have ha1 : vaddN rl 1 = rl + 1 := by simp only [qaddN]
    have ha01 : vaddN 0 1 = 1 := by simp only [qaddN]
    have hrl40 : rl ≤ 256 := by omega
    obtain ⟨cs2, hcs2⟩ : ∃ cs2 : List Int, cs2 = cs ++ [cc] := ⟨_, rfl⟩
    have hcl2 : cs2.length = rl + 1 := by rw [hcs2, List.length_append, hrl]; rfl
    rw [← hcs2] at honto hS2
    obtain ⟨rl2, hrl2⟩ : ∃ rl2 : Nat, rl2 = rl + 1 := ⟨_, rfl⟩
    rw [← hrl2] at ha1 hcl2
    have hofn2 : vofN rl2 = (rl2 : Int) := by simp only [qofN]
    rw [ek, el]
    refine ⟨⟨by rw [ha01, hln1]; exact Nat.le_refl _⟩, ⟨by rw [hvln]; exact Nat.le_refl _⟩, ⟨Nat.le_refl _⟩, ⟨by rw [ha1]; omega⟩, ?_⟩
    intro c4 js6 hle4
    cbv
    refine call_con (ρ := []) hpc ⟨by rfl, by rfl, by rfl, by cbv⟩ ?_
    rintro v H R js7 ⟨rfl, rfl, rfl⟩
    cbv
    rw [em, hsub, honto, ha1]
    generalize hz9 : vc .neq cc 0 = z9
    cases z9
    rotate_left
    ·rw [qc, neq_true] at hz9
     rw [if_pos hz9] at hS2
     cbv
     refine Cv.fold ([13, 14, 15, 16, 17, 18, 19, 20] ++ [54, 55, 56, 57, 58, 59, 60, 61, 62, 63, 64, 65, 66, 67, 68, 69, 70, 71, 72, 73, 74, 75, 76, 77, 78, 79, 80, 81, 82, 83, 84, 85, 86, 87, 88, 89, 90, 91, 92, 93, 94, 95, 96, 97, 98, 99, 100, 101, 102, 103, 104, 105, 106, 107, 108, 109, 110, 111, 112, 113, 114, 115, 116, 117, 118, 119, 120, 121, 122, 123, 124, 125, 126, 127, 128, 129, 130, 131, 132, 133, 134, 135, 136]) 6 [5] (by exact Nat.le_refl _) (by exact Nat.le_of_ble_eq_true rfl) (by rfl) (by cbv) ?_
     intro js
     refine ⟨(g, _, _, _, _, pp, _, _, _), ?_, js, rfl⟩
     refine ⟨⟨hS2, by omega, by simp only [nc] at *; omega, hcl2.symm, hrsF, by omega⟩, ?_⟩
     show g < g + 1
     omega
    rw [qc, neq_false] at hz9
    rw [if_neg hz9] at hS2
    cbv
    generalize hz10 : vc .gtr (vofN rl2) ms = z10
    cases z10
    rotate_left
    ·rw [qc, gtr_true, hofn2] at hz10
     rw [if_pos (by simp only [nc] at *; omega)] at hS2
     have he0 := hbad 11 (by decide) hS2.symm
     cbv
     exact .inl ⟨by rw [he0]; decide, by rw [he0]⟩
    rw [qc, gtr_false, hofn2] at hz10
    rw [if_neg (by simp only [nc] at *; omega)] at hS2
    cbv
    refine loop_fam (α := Nat × Int × List Int × Nat × Nat × Nat × Int × Int × Int) ([16, 56, 106, 109, 116] ++ [120, 121, 122, 123, 124, 125, 126, 127, 128, 129, 130, 131, 132, 133, 134, 135, 136]) [5]
     (fun (f, nn, cs, rl, c, pos, acc, hv, ai) => [(20, .int .u64 nn), (6, .slice 5 .z 1 rl c)])
     (fun (f, nn, cs, rl, c, pos, acc, hv, ai) => [(3, .one 3 [.int .i64 ai]), (4, .one 215 [.fn 121 [.ptr 3 .z 1 0, .ptr 2 .z 1 0], .int .u64 acc, .int .i64 hv, .fn 122 [.ptr 2 .z 1 0, .ptr 3 .z 1 0]]), (5, .buf 124 .i16 cs c)])
     (fun (f, nn, cs, rl, c, pos, acc, hv, ai) => ((nn = 3 ∧ readS b ms f true left2 cs pos = RES ∧ 601 ≤ f + 2 * cs.length) ∨ (nn ≠ 3 ∧ readS b ms f false left2 cs pos = RES ∧ 600 ≤ f + 2 * cs.length)) ∧ cs.length ≤ 256 ∧ rl = cs.length ∧ RS b pos acc hv ai ∧ f ≤ g)
     (fun (f, nn, cs, rl, c, pos, acc, hv, ai) => f) hw hm ?_ ?_
    ·refine Cv.genAt [20] [] (Cv.fold ([16, 56, 106, 109, 116] ++ [120, 121, 122, 123, 124, 125, 126, 127, 128, 129, 130, 131, 132, 133, 134, 135, 136]) 7 [5] (by exact Nat.le_refl _) (by exact Nat.le_of_ble_eq_true rfl) (by rfl) (by cbv) ?_)
     intro js
     refine ⟨(g, _, _, _, _, pp, _, _, _), ?_, js, rfl⟩
     exact ⟨.inl ⟨rfl, hS2, by omega⟩, by simp only [nc] at *; omega, hcl2.symm, hrsF, Nat.le_refl _⟩
    ·rintro ⟨f5, nn, cs5, rl5, c5, pos5, acc5, hv5, ai5⟩ js ⟨hS5, hcl5, hrl5, hrs5, hf5⟩
     clear hS2
     cbv
     split
     rotate_left
     ·rename_i hz11
      rw [qc, eql_false] at hz11
      obtain ⟨_, hS6, hf6⟩ := hS5.resolve_left (fun h => hz11 h.1)
      cbv
      refine Cv.fold ([13, 14, 15, 16, 17, 18, 19, 20] ++ [54, 55, 56, 57, 58, 59, 60, 61, 62, 63, 64, 65, 66, 67, 68, 69, 70, 71, 72, 73, 74, 75, 76, 77, 78, 79, 80, 81, 82, 83, 84, 85, 86, 87, 88, 89, 90, 91, 92, 93, 94, 95, 96, 97, 98, 99, 100, 101, 102, 103, 104, 105, 106, 107, 108, 109, 110, 111, 112, 113, 114, 115, 116, 117, 118, 119, 120, 121, 122, 123, 124, 125, 126, 127, 128, 129, 130, 131, 132, 133, 134, 135, 136]) 6 [5] (by exact Nat.le_refl _) (by exact Nat.le_of_ble_eq_true rfl) (by rfl) (by cbv) ?_
      intro js
      refine ⟨(f5, _, _, _, _, pos5, _, _, _), ?_, js, rfl⟩
      refine ⟨⟨hS6, hf6, hcl5, hrl5, hrs5, by omega⟩, ?_⟩
      show f5 < g + 1
      omega
     ·rename_i hz11
      rw [qc, eql_true] at hz11
      obtain ⟨_, hS6, hf6⟩ := hS5.resolve_right (fun h => h.1 hz11)
      obtain ⟨g5, rfl⟩ : ∃ g5, f5 = g5 + 1 := ⟨f5 - 1, by omega⟩
      rw [readS] at hS6
      have hrd5 := hrd pos5 c0 bl 2 acc5 hv5 ai5 rfl hby (by omega) hrs5 (by omega)
      cbv
      refine call_con (ρ := [(4, .z), (3, .z), (2, .z), (1, .z)]) hrd5 ⟨by rfl, by rfl, by rfl, by cbv; exact ⟨view_refl _, trivial⟩⟩ ?_
      rintro v H R js8 ⟨rfl, acc6, hv6, ai6, n2, e2, pos6, rfl, hrs6, hcase6, rfl⟩
      cbv
      rcases hcase6 with ⟨rfl, hrd6, hpos6, hn0, hn1⟩ | ⟨rfl, hrd6⟩
      rotate_left
      ·have hrd6 : rdN b pos5 2 = none := hrd6
       rw [hrd6] at hS6
       have he0 := hbad 10 (by decide) hS6.symm
       rw [h100]
       cbv
       exact .inl ⟨by rw [he0]; decide, by rw [he0]⟩
      have hrd6 : rdN b pos5 2 = some n2 := hrd6
      have hpos6 : pos6 = pos5 + 2 := hpos6
      have hn1 : n2 < 4 := hn1
      rw [hrd6] at hS6
      simp only at hS6
      rw [← hpos6] at hS6
      have htn : vtoN n2 = n2.toNat := by simp only [qtoN]
      have hrep : vrep n2.toNat 0 = List.replicate n2.toNat 0 := by simp only [qrep]
      have honto5 : vonto cs5 rl5 (List.replicate n2.toNat 0) = cs5 ++ List.replicate n2.toNat 0 := by rw [qonto, hrl5]; simp
      obtain ⟨cs7, hcs7⟩ : ∃ cs7 : List Int, cs7 = cs5 ++ List.replicate n2.toNat 0 := ⟨_, rfl⟩
      rw [← hcs7] at hS6 honto5
      have hvln5 : vln cs5 = rl5 := by simp only [qln, hrl5]
      have ha5 : vaddN rl5 n2.toNat = rl5 + n2.toNat := by simp only [qaddN]
      have hcl7 : cs7.length = rl5 + n2.toNat := by rw [hcs7, List.length_append, List.length_replicate, hrl5]
      have hrl5b : rl5 ≤ 256 := by omega
      have hnN4 : n2.toNat < 4 := by omega
      obtain ⟨rl7, hrl7⟩ : ∃ rl7 : Nat, rl7 = rl5 + n2.toNat := ⟨_, rfl⟩
      rw [← hrl7] at ha5 hcl7
      have hofn7 : vofN rl7 = (rl7 : Int) := by simp only [qofN]
      clear hcs7
      generalize hrepv : List.replicate n2.toNat (0 : Int) = rep at *
      generalize hnNv : n2.toNat = nN at *
      rw [h00]
      cbv
      rw [htn, hrep, ha5]
      refine ⟨⟨hn0⟩, ⟨by omega⟩, ⟨by rw [hvln5]; exact Nat.le_refl _⟩, ⟨Nat.le_refl _⟩, ⟨by omega⟩, ?_⟩
      intro c7 js9 hle7
      cbv
      rw [honto5, ha5]
      generalize hz12 : vc .gtr (vofN rl7) ms = z12
      cases z12
      rotate_left
      ·rw [qc, gtr_true, hofn7] at hz12
       rw [if_pos (by simp only [nc] at *; omega)] at hS6
       have he0 := hbad 11 (by decide) hS6.symm
       cbv
       exact .inl ⟨by rw [he0]; decide, by rw [he0]⟩
      ·rw [qc, gtr_false, hofn7] at hz12
       rw [if_neg (by simp only [nc] at *; omega)] at hS6
       cbv
       refine Cv.fold ([16, 56, 106, 109, 116] ++ [120, 121, 122, 123, 124, 125, 126, 127, 128, 129, 130, 131, 132, 133, 134, 135, 136]) 7 [5] (by exact Nat.le_refl _) (by exact Nat.le_of_ble_eq_true rfl) (by rfl) (by cbv) ?_
       intro js
       refine ⟨(g5, _, _, _, _, pos6, _, _, _), ?_, js, rfl⟩
       refine ⟨⟨?_, by simp only [nc] at *; omega, hcl7.symm, hrs6, by omega⟩, ?_⟩
       ·by_cases h3 : n2 = 3
        ·rw [if_pos h3] at hS6
         exact .inl ⟨h3, hS6, by omega⟩
        ·rw [if_neg h3] at hS6
         exact .inr ⟨h3, hS6, by omega⟩
       ·show g5 < g5 + 1
        omega
end Go.Proofs.Ytlclleihoampdaa
namespace Go.Proofs.Ytlclleihoampdaa
open Go Go.Sx
theorem mod_snoc (x : Int) (n : Nat) : x % 2 ^ (n + 1) = x % 2 ^ n + x / 2 ^ n % 2 * 2 ^ n := by
 have hp : (0 : Int) < 2 ^ n := Int.pow_pos (by decide)
 rw [Int.pow_succ, Int.emod_def x (2 ^ n * 2), Int.emod_def x (2 ^ n), ← Int.ediv_ediv_of_nonneg (Int.le_of_lt hp), Int.emod_def (x / 2 ^ n) 2]
 generalize x / 2 ^ n = q
 generalize (2 : Int) ^ n = m
 rw [Int.sub_mul, Int.mul_assoc m 2, Int.mul_comm m (2 * (q / 2)), Int.mul_comm m q]
 omega
theorem bval_of_bits (l : List Int) (i : Nat) (x : Int) : ∀ n, (∀ j, j < n → l.getD (i + j) 0 = x / 2 ^ j % 2) → bval l i n = x % 2 ^ n
 | 0, _ => by simp [bval, Int.emod_one]
 | n + 1, h => by
  simp only [bval]
  rw [bval_of_bits l i x n (fun j hj => h j (by omega)), h n (by omega), mod_snoc]
end Go.Proofs.Ytlclleihoampdaa
namespace Go.Proofs.Ytlclleihoampdaa
open Go Go.Sx Go.Proofs
theorem rdN_at {b W pre rest : List Int} {x : Int} {n j k : Nat} (hb : ∀ i, i < W.length → (bitL b).getD i 0 = W.getD i 0) (hlen : W.length ≤ 8 * b.length) (hW : W = pre ++ bitsN x n ++ rest) (hjk : j + k ≤ n) :
    rdN b (pre.length + j) k = some (x / 2 ^ j % 2 ^ k) := by
  have hl : pre.length + n ≤ W.length := by rw [hW, List.length_append, List.length_append, bitsN_length]; omega
  unfold rdN
  rw [if_pos (by omega)]
  congr 1
  refine bval_of_bits _ _ _ _ (fun t ht => ?_)
  rw [hb _ (by omega), hW, List.append_assoc, List.getD_eq_getElem?_getD, List.getElem?_append_right (by omega), List.getElem?_append_left (by rw [bitsN_length]; omega)]
  have e : pre.length + j + t - pre.length = j + t := by omega
  rw [e]
  have hjt : j + t < n := by omega
  simp only [bitsN, List.getElem?_map, List.getElem?_range hjt, Option.map_some, Option.getD_some]
  rw [Int.pow_add, Int.ediv_ediv_of_nonneg (by exact Int.pow_nonneg (by omega))]
theorem isByte_behind {W behind : List Int} (hW : ∀ x ∈ W, isBit x) (i : Nat) (hi : i < W.length) : (bitL (pack W ++ behind)).getD i 0 = W.getD i 0 := by
  have hpl := pack_length W
  rw [bitL_get _ _ (by rw [List.length_append]; omega)]
  have h2 : bitAt (pack W) i = W.getD i 0 := bitAt_pack W hW i
  rw [← h2]
  unfold bitAt
  rw [if_pos (by omega), if_pos (by omega)]
  congr 2
  have e : ((i : Int) / 8).toNat < (pack W).length := by omega
  rw [List.getD_eq_getElem?_getD, List.getElem?_append_left e, ← List.getD_eq_getElem?_getD]
theorem readV {b W pre rest : List Int} {v most : Int} (hb : ∀ i, i < W.length → (bitL b).getD i 0 = W.getD i 0) (hlen : W.length ≤ 8 * b.length) (hW : W = pre ++ putV v most ++ rest) (hv : 0 ≤ v ∧ v ≤ most) (hm : 2 ≤ most) :
    ∃ v0, rdN b pre.length (blen most - 1).toNat = some v0 ∧ valR b pre.length most v0 = some (v, pre.length + (putV v most).length) := by
  obtain ⟨mk, h1, h2, h3⟩ := blen_spec (x := most) (by omega)
  unfold valR
  have e1 : (blen most).toNat = mk + 1 := by omega
  have e2 : (blen most - 1).toNat = mk := by omega
  have e3 : (2 : Int) ^ (mk + 1) = 2 * 2 ^ mk := by rw [Int.pow_succ]; omega
  unfold putV at hW ⊢
  rw [e1, e2] at hW ⊢
  rw [e3] at hW ⊢ h3
  have hq0 : (0 : Int) < 2 ^ mk := Int.pow_pos (by omega)
  generalize hq : (2 : Int) ^ mk = q at *
  have hz : ∀ x : Int, x / 2 ^ 0 = x := fun x => by simp
  by_cases c1 : v < 2 * q - 1 - most
  · rw [if_pos c1] at hW ⊢
    have hr := rdN_at (j := 0) (k := mk) hb hlen hW (by omega)
    rw [Nat.add_zero, hz, hq, Int.emod_eq_of_lt hv.1 (by omega)] at hr
    refine ⟨v, hr, ?_⟩
    rw [if_neg (by omega), bitsN_length]
  · rw [if_neg c1] at hW ⊢
    by_cases c2 : v < q
    · rw [if_pos c2] at hW ⊢
      have hr := rdN_at (j := 0) (k := mk) hb hlen hW (by omega)
      rw [Nat.add_zero, hz, hq, Int.emod_eq_of_lt hv.1 (by omega)] at hr
      have hr2 := rdN_at (j := mk) (k := 1) hb hlen hW (by omega)
      rw [hq, Int.ediv_eq_zero_of_lt hv.1 c2] at hr2
      refine ⟨v, hr, ?_⟩
      rw [if_pos (by omega), hr2, bitsN_length]
      rfl
    · rw [if_neg c2] at hW ⊢
      have hr := rdN_at (j := 0) (k := mk) hb hlen hW (by omega)
      have hx : (v + (2 * q - 1 - most)) % q = v + (2 * q - 1 - most) - q := by
        rw [← Int.emod_eq_of_lt (show 0 ≤ v + (2 * q - 1 - most) - q by omega) (show v + (2 * q - 1 - most) - q < q by omega), Int.sub_emod, Int.emod_self, Int.sub_zero, Int.emod_emod_of_dvd _ (Int.dvd_refl _)]
      rw [Nat.add_zero, hz, hq, hx] at hr
      have hr2 := rdN_at (j := mk) (k := 1) hb hlen hW (by omega)
      have hd : (v + (2 * q - 1 - most)) / q = 1 := by
        have : v + (2 * q - 1 - most) = (v + (2 * q - 1 - most) - q) + q * 1 := by omega
        rw [this, Int.add_mul_ediv_left _ _ (by omega), Int.ediv_eq_zero_of_lt (by omega) (by omega)]; rfl
      rw [hq, hd] at hr2
      refine ⟨_, hr, ?_⟩
      rw [if_pos (by omega), hr2, bitsN_length]
      have : ((1 : Int) % 2 ^ 1) = 1 := by decide
      simp only [this, if_true]
      congr 2
      omega
theorem readZ {b W : List Int} {ms left : Int} (hb : ∀ i, i < W.length → (bitL b).getD i 0 = W.getD i 0) (hlen : W.length ≤ 8 * b.length) : ∀ (q f : Nat) (pre rest cs : List Int), W = pre ++ zr q ++ rest → ((cs.length : Int) + q ≤ ms) → q + 1 ≤ f →
    ∃ f', f ≤ f' + q + 1 ∧ f' < f ∧ readS b ms f true left cs pre.length = readS b ms f' false left (cs ++ List.replicate q 0) (pre.length + (zr q).length)
  | 0, f, pre, rest, cs, hW, hms, hf => small b W ms left hb hlen 0 (by omega) f pre rest cs hW hms hf
  | 1, f, pre, rest, cs, hW, hms, hf => small b W ms left hb hlen 1 (by omega) f pre rest cs hW hms hf
  | 2, f, pre, rest, cs, hW, hms, hf => small b W ms left hb hlen 2 (by omega) f pre rest cs hW hms hf
  | q + 3, f, pre, rest, cs, hW, hms, hf => by
    obtain ⟨g, rfl⟩ : ∃ g, f = g + 1 := ⟨f - 1, by omega⟩
    have hW2 : W = pre ++ bitsN 3 2 ++ (zr q ++ rest) := by rw [hW, zr]; simp only [List.append_assoc]
    have hr := rdN_at (j := 0) (k := 2) hb hlen hW2 (by omega)
    have e3 : ((3 : Int) / 2 ^ 0 % 2 ^ 2) = 3 := by decide
    rw [Nat.add_zero, e3] at hr
    have e4 : (3 : Int).toNat = 3 := rfl
    obtain ⟨f', h1, h2, h3⟩ := readZ (left := left) (ms := ms) hb hlen q g (pre ++ bitsN 3 2) rest (cs ++ List.replicate 3 0) (by rw [hW, zr]; simp only [List.append_assoc]) (by rw [List.length_append, List.length_replicate]; push_cast at *; omega) (by omega)
    refine ⟨f', by omega, by omega, ?_⟩
    rw [readS, hr]
    simp only [e4]
    rw [if_neg (by rw [List.length_append, List.length_replicate]; push_cast at *; omega), if_pos trivial]
    rw [List.length_append, bitsN_length] at h3
    rw [h3, zr, List.length_append, bitsN_length, List.append_assoc, List.replicate_append_replicate]
    congr 1
    · rw [show 3 + q = q + 3 by omega]
    · omega
where
  small (b W : List Int) (ms left : Int) (hb : ∀ i, i < W.length → (bitL b).getD i 0 = W.getD i 0) (hlen : W.length ≤ 8 * b.length) (q : Nat) (hq : q < 3) (f : Nat) (pre rest cs : List Int) (hW : W = pre ++ zr q ++ rest) (hms : (cs.length : Int) + q ≤ ms) (hf : q + 1 ≤ f) :
      ∃ f', f ≤ f' + q + 1 ∧ f' < f ∧ readS b ms f true left cs pre.length = readS b ms f' false left (cs ++ List.replicate q 0) (pre.length + (zr q).length) := by
    obtain ⟨g, rfl⟩ : ∃ g, f = g + 1 := ⟨f - 1, by omega⟩
    rw [zr_small hq] at hW ⊢
    have hr := rdN_at (j := 0) (k := 2) hb hlen hW (by omega)
    have e3 : ((q : Int) / 2 ^ 0 % 2 ^ 2) = q := by simp only [Int.pow_zero, Int.ediv_one]; omega
    rw [Nat.add_zero, e3] at hr
    refine ⟨g, by omega, by omega, ?_⟩
    rw [readS, hr]
    simp only [Int.toNat_natCast]
    rw [if_neg (by rw [List.length_append, List.length_replicate]; push_cast at *; omega), if_neg (by omega), bitsN_length]
theorem zeros_run (l : List Int) : ∀ (m i : Nat), i + m = l.length → i < l.length → l.getD (l.length - 1) 0 ≠ 0 → ∃ q, i + q < l.length ∧ (∀ j, j < q → l.getD (i + j) 0 = 0) ∧ l.getD (i + q) 0 ≠ 0
  | 0, i, h, hi, _ => by omega
  | m + 1, i, h, hi, hl => by
    by_cases h0 : l.getD i 0 = 0
    · have hi1 : i + 1 < l.length := by
        apply Classical.byContradiction
        intro hc
        have : i = l.length - 1 := by omega
        rw [this] at h0; exact hl h0
      obtain ⟨q, h1, h2, h3⟩ := zeros_run l m (i + 1) (by omega) hi1 hl
      refine ⟨q + 1, by omega, fun j hj => ?_, by rw [show i + (q + 1) = i + 1 + q by omega]; exact h3⟩
      cases j with
      | zero => exact h0
      | succ j => rw [show i + (j + 1) = i + 1 + j by omega]; exact h2 j (by omega)
    · exact ⟨0, by omega, fun j hj => by omega, h0⟩
theorem readBack {b W l : List Int} {ms pw : Int} (hb : ∀ i, i < W.length → (bitL b).getD i 0 = W.getD i 0) (hlen : W.length ≤ 8 * b.length) (h1 : ∀ c ∈ l, -1 ≤ c) (hlast : l.getD (l.length - 1) 0 ≠ 0) (hms : (l.length : Int) ≤ ms + 1) (hpw : sumP l = pw) :
    ∀ (m i f : Nat) (pre : List Int) (left : Int), i + m = l.length → left = pw - sumP (l.take i) → W = pre ++ wgo none (l.drop i) left → 2 * m + 1 ≤ f → readS b ms f false left (l.take i) pre.length = (0, l, W.length) := by
  intro m
  induction m using Nat.strongRecOn with
  | _ m ih =>
    intro i f pre left him hleft hW hf
    obtain ⟨g, rfl⟩ : ∃ g, f = g + 1 := ⟨f - 1, by omega⟩
    by_cases hi : i < l.length
    · have hci : -1 ≤ l.getD i 0 := h1 _ (by rw [List.getD_eq_getElem?_getD, List.getElem?_eq_getElem hi]; exact List.getElem_mem _)
      have hts := sumP_take_le h1 i
      have hts1 := sumP_take_le h1 (i + 1)
      have hs1 : sumP (l.take (i + 1)) = sumP (l.take i) + partsN (l.getD i 0) := by rw [take_snoc hi, sumP_snoc]
      have hpn := partsN_nonneg hci
      have hlpos : 0 < left := by
        have hn1 : l.length - 1 < l.length := by omega
        have ha := sumP_take_le (l := l.take (l.length - 1)) (fun c hc => h1 c (List.mem_of_mem_take hc)) i
        rw [List.take_take, Nat.min_eq_left (by omega)] at ha
        have hb1 : sumP (l.take (l.length - 1 + 1)) = sumP (l.take (l.length - 1)) + partsN (l.getD (l.length - 1) 0) := by rw [take_snoc hn1, sumP_snoc]
        rw [Nat.sub_add_cancel (by omega), List.take_length] at hb1
        have hcl : -1 ≤ l.getD (l.length - 1) 0 := h1 _ (by rw [List.getD_eq_getElem?_getD, List.getElem?_eq_getElem hn1]; exact List.getElem_mem _)
        have : 1 ≤ partsN (l.getD (l.length - 1) 0) := by unfold partsN; split <;> omega
        omega
      have hcl : l.getD i 0 ≤ left := by
        have : l.getD i 0 ≤ partsN (l.getD i 0) := by unfold partsN; split <;> omega
        omega
      rw [drop_cons hi, wgo, if_neg (by omega), ← List.append_assoc] at hW
      obtain ⟨v0, hr1, hr2⟩ := readV (v := l.getD i 0 + 1) (most := left + 1) hb hlen hW (by omega) (by omega)
      rw [readS, if_neg (by omega), if_neg (by rw [List.length_take]; omega), hr1]
      simp only
      rw [hr2]
      simp only [Int.add_sub_cancel]
      have htk : l.take i ++ [l.getD i 0] = l.take (i + 1) := (take_snoc hi).symm
      rw [htk]
      have hleft2 : left - partsN (l.getD i 0) = pw - sumP (l.take (i + 1)) := by omega
      have hpl : (pre ++ putV (l.getD i 0 + 1) (left + 1)).length = pre.length + (putV (l.getD i 0 + 1) (left + 1)).length := List.length_append
      by_cases h0 : l.getD i 0 = 0
      · rw [if_neg (fun h => h h0)]
        rw [if_pos h0] at hW
        have hi1 : i + 1 < l.length := by
          apply Classical.byContradiction
          intro hc
          have : i = l.length - 1 := by omega
          rw [this] at h0; exact hlast h0
        rw [if_neg (by rw [List.length_take]; omega)]
        obtain ⟨q, hq1, hq2, hq3⟩ := zeros_run l (m - 1) (i + 1) (by omega) hi1 hlast
        rw [wgo_zeros l _ q 0 (i + 1) (by omega) (by omega) hq2 hq3, Nat.zero_add, ← List.append_assoc] at hW
        obtain ⟨f', hf1, hf2, hf3⟩ := readZ (ms := ms) (left := left - partsN (l.getD i 0)) hb hlen q g _ _ (l.take (i + 1)) hW (by rw [List.length_take]; omega) (by omega)
        rw [hpl] at hf3
        rw [hf3]
        have htz : l.take (i + 1) ++ List.replicate q 0 = l.take (i + 1 + q) := by
          have : ∀ q, i + 1 + q ≤ l.length → (∀ j, j < q → l.getD (i + 1 + j) 0 = 0) → l.take (i + 1) ++ List.replicate q 0 = l.take (i + 1 + q) := by
            intro q
            induction q with
            | zero => intro _ _; simp
            | succ q ihq =>
              intro h1 h2
              have hz := h2 q (by omega)
              rw [List.replicate_succ', ← List.append_assoc, ihq (by omega) (fun j hj => h2 j (by omega)), ← Nat.add_assoc, take_snoc (by omega), hz]
          exact this q (by omega) hq2
        have hsz : sumP (l.take (i + 1 + q)) = sumP (l.take (i + 1)) := by
          rw [← htz]
          have : ∀ (a : List Int) n, sumP (a ++ List.replicate n 0) = sumP a := by
            intro a n
            induction n with
            | zero => simp
            | succ n ihn => rw [List.replicate_succ', ← List.append_assoc, sumP_snoc, ihn]; have : partsN 0 = 0 := by decide
                            omega
          exact this _ _
        rw [htz]
        have := ih (l.length - (i + 1 + q)) (by omega) (i + 1 + q) f' (pre ++ putV (l.getD i 0 + 1) (left + 1) ++ zr q) (left - partsN (l.getD i 0)) (by omega) (by omega) hW (by omega)
        rw [List.length_append, List.length_append] at this
        exact this
      · rw [if_pos h0]
        rw [if_neg h0] at hW
        have := ih (m - 1) (by omega) (i + 1) g (pre ++ putV (l.getD i 0 + 1) (left + 1)) (left - partsN (l.getD i 0)) (by omega) hleft2 hW (by omega)
        rw [hpl] at this
        exact this
    · have hie : i = l.length := by omega
      subst hie
      rw [List.take_length] at hleft ⊢
      rw [readS, if_pos (by omega)]
      rw [List.drop_length, wgo, List.append_nil] at hW
      rw [hW]
end Go.Proofs.Ytlclleihoampdaa
namespace Go.Proofs.Ytlclleihoampdaa
open Go Go.Sx Go.Proofs
set_option maxRecDepth 10000
set_option maxHeartbeats 40000000
theorem pack_wbits {l : List Int} {log : Int} (h : Right l log) : (pack (wbits l log)).length ≤ 700 := by
 have := wbits_length h
 rw [pack_length]; omega
end Go.Proofs.Ytlclleihoampdaa
namespace Go.Proofs.Ytlclleihoampdaa
open Go Go.Sx Go.Proofs
set_option maxRecDepth 10000
set_option maxHeartbeats 40000000
theorem read_ok (b : List Int) (cap : Nat) (ml ms : Int) (hby : ∀ x ∈ b, isByte x) (hl : b.length ≤ 140737488355328) (hml : -9223372036854775808 ≤ ml ∧ ml ≤ 9223372036854775807) (hms : -9223372036854775808 ≤ ms ∧ ms ≤ 9223372036854775807)
  (cs0 : List Int) (log0 used0 : Int) (hR : readR b ml ms = (cs0, log0, used0, 0)) :
  Con Try.prog 70 [.slice 0 .z 1 b.length cap, .int .i64 ml, .int .i64 ms] [.ro .u8 b] (fun v H R => R = [] ∧ ∃ c, v = .tup [.slice 1 .z 1 cs0.length c, .int .i64 log0, .int .i64 used0, .int .i64 0] ∧ H = [.ro .u8 b, .buf 124 .i16 cs0 c]) := by
 have h : Con Try.prog 70 [.slice 0 .z 1 b.length cap, .int .i64 ml, .int .i64 ms] [.ro .u8 b] (fun v H R => R = [] ∧ ∃ c c0 acc hv ai, v = .tup [.slice 5 .z 1 cs0.length c, .int .i64 log0, .int .i64 used0, .int .i64 0] ∧
   H = [.ro .u8 b, .buf 5 .u8 b c0, .one 25 [.slice 1 .z 1 b.length c0], .one 3 [.int .i64 ai], .one 215 [.fn 121 [.ptr 3 .z 1 0, .ptr 2 .z 1 0], .int .u64 acc, .int .i64 hv, .fn 122 [.ptr 2 .z 1 0, .ptr 3 .z 1 0]], .buf 124 .i16 cs0 c]) := by
  refine con_gen (con_cut 6 (by simp) (con_drop ((read_raw b cap ml ms hby hl hml hms cs0 log0 used0 0 hR).mono ?_)))
  rintro v H R ⟨h1, h2, h3, ⟨h4, _⟩ | ⟨_, h5, c, c0, acc, hv, ai, h6, h7⟩⟩
  ·exact absurd rfl h4
  ·exact ⟨h5, h1, c, c0, acc, hv, ai, h6, h7⟩
 refine con_pick [0, 5] rfl rfl (h.mono ?_)
 rintro v H R ⟨rfl, c, c0, acc, hv, ai, rfl, rfl⟩
 exact ⟨.tup [.slice 1 .z 1 cs0.length c, .int .i64 log0, .int .i64 used0, .int .i64 0], [.ro .u8 b, .buf 124 .i16 cs0 c], rfl, rfl, ⟨rfl, rfl, trivial⟩, rfl, c, rfl, rfl⟩
theorem read_err (b : List Int) (cap : Nat) (ml ms : Int) (hby : ∀ x ∈ b, isByte x) (hl : b.length ≤ 140737488355328) (hml : -9223372036854775808 ≤ ml ∧ ml ≤ 9223372036854775807) (hms : -9223372036854775808 ≤ ms ∧ ms ≤ 9223372036854775807)
  (cs0 : List Int) (log0 used0 e0 : Int) (hR : readR b ml ms = (cs0, log0, used0, e0)) (he : e0 ≠ 0) :
  Con Try.prog 70 [.slice 0 .z 1 b.length cap, .int .i64 ml, .int .i64 ms] [.ro .u8 b] (fun v H R => R = [] ∧ v = .tup [.val (.slice none 0 0), .int .i64 0, .int .i64 0, .int .i64 e0] ∧ H = [.ro .u8 b]) := by
 refine con_gen (con_cut 1 (by simp) (con_drop ((read_raw b cap ml ms hby hl hml hms cs0 log0 used0 e0 hR).mono ?_)))
 rintro v H R ⟨h1, h2, h3, ⟨_, h4⟩ | ⟨h4, _⟩⟩
 ·exact ⟨h2, h1, h4, h3⟩
 ·exact absurd h4 he
theorem rdN_some {b : List Int} {pos n : Nat} {x : Int} (h : rdN b pos n = some x) : pos + n ≤ 8 * b.length ∧ 0 ≤ x ∧ x < 2 ^ n := by
 unfold rdN at h
 split at h
 ·rename_i hp
  have := bval_bound (bitL b) (bitL_bit b) pos n
  rw [Option.some.injEq] at h
  exact ⟨hp, by omega, by omega⟩
 ·cases h
theorem valR_range {b : List Int} {pos pos' : Nat} {most v x : Int} (hm : 2 ≤ most ∧ most ≤ 4097) (hr : rdN b pos (blen most - 1).toNat = some v) (h : valR b pos most v = some (x, pos')) : 0 ≤ x ∧ x ≤ 8192 ∧ pos' ≤ 8 * b.length := by
 obtain ⟨h1, h2, h3⟩ := rdN_some hr
 obtain ⟨k, hk, hk1, hk2⟩ := blen_spec (x := most) (by omega)
 have e1 : (blen most - 1).toNat = k := by omega
 have e2 : (blen most).toNat = k + 1 := by omega
 have hp : (2 : Int) ^ (k + 1) = 2 ^ k * 2 := Int.pow_succ _ _
 rw [e1] at h1 h3
 unfold valR at h
 rw [e1, e2, hp] at h
 split at h
 ·split at h
  ·cases h
  ·rename_i top ht
   have h4 := (rdN_some ht).1
   simp only [Option.some.injEq, Prod.mk.injEq] at h
   obtain ⟨h5, h6⟩ := h
   split at h5
   ·omega
   ·omega
 ·simp only [Option.some.injEq, Prod.mk.injEq] at h
  omega
theorem readS_ok (b : List Int) (ms : Int) : ∀ (f : Nat) (fl : Bool) (left : Int) (cs : List Int) (pos : Nat) (cs' : List Int) (pos' : Nat), left ≤ 4096 → (∀ c ∈ cs, isI16 c) → pos ≤ 8 * b.length →
  readS b ms f fl left cs pos = (0, cs', pos') → (∀ c ∈ cs', isI16 c) ∧ pos' ≤ 8 * b.length
 | 0, fl, left, cs, pos, cs', pos', h1, h2, h3, h => by
  simp only [readS, Prod.mk.injEq] at h
  obtain ⟨_, rfl, rfl⟩ := h
  exact ⟨h2, h3⟩
 | f + 1, false, left, cs, pos, cs', pos', h1, h2, h3, h => by
  rw [readS] at h
  split at h
  ·simp only [Prod.mk.injEq] at h
   obtain ⟨_, rfl, rfl⟩ := h
   exact ⟨h2, h3⟩
  rename_i hl0
  split at h
  ·simp at h
  split at h
  ·simp at h
  rename_i v hv
  split at h
  ·simp at h
  rename_i x p2 hx
  obtain ⟨h4, h5, h6⟩ := valR_range (by omega) hv hx
  have hcs : ∀ c ∈ cs ++ [x - 1], isI16 c := fun c hc => (List.mem_append.1 hc).elim (h2 c) (fun e => by rw [List.mem_singleton.1 e]; unfold isI16; omega)
  have hpn : 0 ≤ partsN (x - 1) := by unfold partsN; split <;> omega
  split at h
  ·exact readS_ok b ms f false _ _ _ cs' pos' (by omega) hcs h6 h
  ·split at h
   ·simp at h
   ·exact readS_ok b ms f true _ _ _ cs' pos' (by omega) hcs h6 h
 | f + 1, true, left, cs, pos, cs', pos', h1, h2, h3, h => by
  rw [readS] at h
  split at h
  ·simp at h
  rename_i n hn
  have h4 := (rdN_some hn).1
  have hcs : ∀ c ∈ cs ++ List.replicate n.toNat 0, isI16 c := fun c hc => (List.mem_append.1 hc).elim (h2 c) (fun e => by rw [(List.mem_replicate.1 e).2]; unfold isI16; omega)
  split at h
  ·simp at h
  split at h
  ·exact readS_ok b ms f true _ _ _ cs' pos' h1 hcs h4 h
  ·exact readS_ok b ms f false _ _ _ cs' pos' h1 hcs h4 h
theorem readR_ok {b cs : List Int} {ml ms log used : Int} (h : readR b ml ms = (cs, log, used, 0)) : (∀ c ∈ cs, isI16 c) ∧ 0 ≤ used ∧ used ≤ b.length ∧ 5 ≤ log ∧ log ≤ 12 := by
 unfold readR at h
 split at h
 ·simp at h
 rename_i hml
 split at h
 ·simp at h
 rename_i x hx
 obtain ⟨h1, h2, h3⟩ := rdN_some hx
 split at h
 ·simp at h
 rename_i hxm
 split at h
 ·simp only [Prod.mk.injEq] at h
  rename_i he
  exact absurd h.2.2.2 he
 rename_i he
 simp only [Prod.mk.injEq] at h
 obtain ⟨rfl, rfl, rfl, _⟩ := h
 have hpl := pow_log (log := x + 5) (by omega)
 have := readS_ok b ms 600 false _ [] 4 _ _ hpl.2 (by simp) (by omega) (show readS b ms 600 false (2 ^ (x + 5).toNat) [] 4 = (0, (readS b ms 600 false (2 ^ (x + 5).toNat) [] 4).2.1, (readS b ms 600 false (2 ^ (x + 5).toNat) [] 4).2.2) by
  rw [show (0 : Int) = (readS b ms 600 false (2 ^ (x + 5).toNat) [] 4).1 by rw [Decidable.not_not.1 he]])
 refine ⟨this.1, ?_, ?_, by omega, by omega⟩
 ·have := this.2; omega
 ·have := this.2; omega
end Go.Proofs.Ytlclleihoampdaa
namespace Go.Proofs.Ytlclleihoampdaa
open Go Go.Sx Go.Proofs
structure Tb where
 n : Nat
 a : Nat → Int
 b : Nat → Int
 c : Nat → Int
def mkT (cs : List Int) (log : Int) : Tb := ⟨(2 ^ log.toNat : Int).toNat, symT cs (2 ^ log.toNat), tabB cs log (2 ^ log.toNat) (2 ^ log.toNat : Int).toNat, tabC cs log (2 ^ log.toNat) (2 ^ log.toNat : Int).toNat⟩
def oneT (x : Int) : Tb := ⟨1, fun _ => x, fun _ => 0, fun _ => 0⟩
def tabK (lg most ah : Int) (cnt : List Int) (way : Int) (b : List Int) (T : Tb) : Int × Int × Tb :=
 if way = 0 then (0, 0, mkT cnt ah)
 else if way = 1 then (if b.length = 0 then (10, 0, T) else if most < b.getD 0 0 then (11, 0, T) else (0, 1, oneT (b.getD 0 0)))
 else if way = 2 then (if (readR b lg most).2.2.2 = 10 then (10, 0, T) else if (readR b lg most).2.2.2 ≠ 0 ∨ ¬ Right (readR b lg most).1 (readR b lg most).2.1 then (11, 0, T)
  else (0, (readR b lg most).2.2.1, mkT (readR b lg most).1 (readR b lg most).2.1))
 else if T.n = 0 then (11, 0, T) else (0, 0, T)
set_option maxRecDepth 10000
set_option maxHeartbeats 4000000
def kH (cL cB cM bL bM gL gM b : List Int) (cm : Nat) (B : SB) : List SB := [.one 59 [.int .i64 9, .int .i64 35, .int .i64 6, .slice 3 .z 1 36 36, .fn 90 [.ptr 7 .z 1 0, .ptr 10 .z 1 0, .ptr 9 .z 1 0, .ptr 8 .z 1 0], .fn 91 [.ptr 9 .z 1 0, .ptr 10 .z 1 0, .ptr 7 .z 1 0, .ptr 8 .z 1 0], .fn 60 [], .int .i64 8, .int .i64 31, .int .i64 5, .slice 4 .z 1 29 29, .fn 64 [], .fn 65 [], .fn 63 [], .int .i64 9, .int .i64 52, .int .i64 6, .slice 5 .z 1 53 cm, .fn 90 [.ptr 12 .z 1 0, .ptr 15 .z 1 0, .ptr 14 .z 1 0, .ptr 13 .z 1 0], .fn 91 [.ptr 14 .z 1 0, .ptr 15 .z 1 0, .ptr 12 .z 1 0, .ptr 13 .z 1 0], .fn 62 []], .ro .u8 b, B, .ints 124 .i16 cL, .ints 124 .i16 cB, .buf 124 .i16 cM cm, .ints 3 .i64 bL, .one 3 [.int .i64 16], .one 63 [.slice 6 .z 1 20 20], .ints 173 .i64 gL, .one 3 [.int .i64 0], .ints 3 .i64 bM, .one 3 [.int .i64 32], .one 63 [.slice 11 .z 1 21 21], .ints 173 .i64 gM, .one 3 [.int .i64 3]]
theorem tab0_0 (PT : SV → List SB → List Nat → Prop) (cL cB cM bL bM gL gM b : List Int) (cm cap An Ac acap : Nat) (Oa Ob Oc : Nat → Int) (N : Nat) (A B C : Nat → Int) (hlen : cL.length = 36)
  (hT : Con Try.prog 66 [.slice 0 .z 1 cL.length 36, .int .i64 6] [.ro .i16 cL] (fun v H R => R = [] ∧ v = .tup [.slice 1 .z 3 N N, .int .i64 0] ∧ H = [.ro .i16 cL, .arr 79 3 N (fun m => [.int .u8 (A m), .int .u8 (B m), .int .u16 (C m)])]))
  (h : PT (.tup [.slice 2 .z 3 N N, .int .i64 0, .int .i64 0]) (kH cL cB cM bL bM gL gM b cm (.bufA 79 3 N (fun m => [.int .u8 (A m), .int .u8 (B m), .int .u16 (C m)]) N)) [2]) : Con Try.prog 34 [.ptr 0 (.n 0) 7 0, .int .u8 0, .slice 1 .z 1 b.length cap, .slice 2 .z 3 An acap] (kH cL cB cM bL bM gL gM b cm (.bufA 79 3 An (fun m => [.int .u8 (Oa m), .int .u8 (Ob m), .int .u16 (Oc m)]) Ac)) PT := by
 rw [hlen] at hT
 refine con_rows (con_gen (con_moves (con_drop (con_walk hmix fn34 ?_))))
 intro vb vc vw vtoN vofN vaddN vsubN vmaxI vminI vcutN vgd vst vln vrep vsub vonto vsplice vstrEq vbyteV vnotB veqB hw qb qc qw qtoN qofN qaddN qsubN qmaxI qminI qcutN qgd qst qln qrep qsub qonto qsplice qstrEq qbyteV qnotB qeqB
 have hm := hmix; generalize Try.prog = P at *
 have h00 : vc .eql 0 0 = true := by rw [qc]; rfl
 generalize b.length = bl at *
 cbv
 rw [h00]
 cbv
 refine call_con (ρ := [(3, .z)]) hT ⟨by rfl, by rfl, by rfl, by cbv; refine ⟨fun _ => rfl, ?_⟩; exact ⟨view_refl _, trivial⟩⟩ ?_
 rintro v H R js ⟨rfl, rfl, rfl⟩
 cbv
 (repeat refine And.intro (fun _ => rfl) ?_)
 cbv
 refine ⟨[2], [0, 1, 16, 3, 4, 5, 6, 7, 8, 9, 10, 11, 12, 13, 14, 15], .tup [.slice 2 .z 3 N N, .lit .i64 0, .int .i64 0], (kH cL cB cM bL bM gL gM b cm (.arr 79 3 N (fun m => [.int .u8 (A m), .int .u8 (B m), .int .u16 (C m)]))), rfl, rfl, rfl, rfl, rfl, ?_, ?_⟩
 ·exact ⟨rfl, rfl, rfl, fun _ => rfl, rfl, rfl, rfl, rfl, rfl, rfl, rfl, rfl, rfl, rfl, rfl, rfl, rfl, trivial⟩
 ·exact h
theorem tab1a_0 (PT : SV → List SB → List Nat → Prop) (cL cB cM bL bM gL gM b : List Int) (cm cap An Ac acap : Nat) (Oa Ob Oc : Nat → Int) (hb : b.length = 0) (h : PT (.tup [.val (.slice none 0 0), .int .i64 0, .int .i64 10]) (kH cL cB cM bL bM gL gM b cm (.bufA 79 3 An (fun m => [.int .u8 (Oa m), .int .u8 (Ob m), .int .u16 (Oc m)]) Ac)) []) : Con Try.prog 34 [.ptr 0 (.n 0) 7 0, .int .u8 1, .slice 1 .z 1 b.length cap, .slice 2 .z 3 An acap] (kH cL cB cM bL bM gL gM b cm (.bufA 79 3 An (fun m => [.int .u8 (Oa m), .int .u8 (Ob m), .int .u16 (Oc m)]) Ac)) PT := by
 refine con_rows (con_gen (con_moves (con_drop (con_walk hmix fn34 ?_))))
 intro vb vc vw vtoN vofN vaddN vsubN vmaxI vminI vcutN vgd vst vln vrep vsub vonto vsplice vstrEq vbyteV vnotB veqB hw qb qc qw qtoN qofN qaddN qsubN qmaxI qminI qcutN qgd qst qln qrep qsub qonto qsplice qstrEq qbyteV qnotB qeqB
 have hm := hmix; generalize Try.prog = P at *
 have h10 : vc .eql 1 0 = false := by rw [qc]; rfl
 have h11 : vc .eql 1 1 = true := by rw [qc]; rfl
 have h00 : vc .eql 0 0 = true := by rw [qc]; rfl
 have ho : vofN 0 = 0 := by simp only [qofN]; rfl
 rw [hb] at *
 cbv
 rw [h10]
 cbv
 rw [h11]
 cbv
 rw [ho, h00]
 cbv
 (repeat refine And.intro (fun _ => rfl) ?_)
 refine ⟨[], [0, 1, 2, 3, 4, 5, 6, 7, 8, 9, 10, 11, 12, 13, 14, 15], .tup [.val (.slice none 0 0), .lit .i64 0, .lit .i64 10], (kH cL cB cM bL bM gL gM b cm (.bufA 79 3 An (fun m => [.int .u8 (Oa m), .int .u8 (Ob m), .int .u16 (Oc m)]) Ac)), rfl, rfl, rfl, rfl, rfl, ?_, ?_⟩
 ·exact ⟨rfl, rfl, rfl, fun _ => rfl, rfl, rfl, rfl, rfl, rfl, rfl, rfl, rfl, rfl, rfl, rfl, rfl, rfl, trivial⟩
 ·exact h
theorem tab1b_0 (PT : SV → List SB → List Nat → Prop) (cL cB cM bL bM gL gM b : List Int) (cm cap An Ac acap : Nat) (Oa Ob Oc : Nat → Int) (x : Int) (hx : b.getD 0 0 = x) (hb : 1 ≤ b.length) (hx2 : 0 ≤ x ∧ x < 256) (hm : 35 < x) (h : PT (.tup [.val (.slice none 0 0), .int .i64 0, .int .i64 11]) (kH cL cB cM bL bM gL gM b cm (.bufA 79 3 An (fun m => [.int .u8 (Oa m), .int .u8 (Ob m), .int .u16 (Oc m)]) Ac)) []) : Con Try.prog 34 [.ptr 0 (.n 0) 7 0, .int .u8 1, .slice 1 .z 1 b.length cap, .slice 2 .z 3 An acap] (kH cL cB cM bL bM gL gM b cm (.bufA 79 3 An (fun m => [.int .u8 (Oa m), .int .u8 (Ob m), .int .u16 (Oc m)]) Ac)) PT := by
 refine con_rows (con_gen (con_moves (con_drop (con_walk hmix fn34 ?_))))
 intro vb vc vw vtoN vofN vaddN vsubN vmaxI vminI vcutN vgd vst vln vrep vsub vonto vsplice vstrEq vbyteV vnotB veqB hw qb qc qw qtoN qofN qaddN qsubN qmaxI qminI qcutN qgd qst qln qrep qsub qonto qsplice qstrEq qbyteV qnotB qeqB
 have hgt : vc .gtr x 35 = true := by rw [qc, gtr_true]; exact hm
 clear hm
 have hm := hmix; generalize Try.prog = P at *
 have h10 : vc .eql 1 0 = false := by rw [qc]; rfl
 have h11 : vc .eql 1 1 = true := by rw [qc]; rfl
 obtain ⟨bl, hbl⟩ : ∃ bl, bl = b.length := ⟨_, rfl⟩
 obtain ⟨bi, hbi⟩ : ∃ bi : Int, bi = bl := ⟨_, rfl⟩
 have ho : vofN bl = bi := by simp only [qofN]; exact hbi.symm
 have hn0 : vc .eql bi 0 = false := by rw [qc, eql_false]; omega
 have hin : (0 : Int) ≤ 0 ∧ (0 : Int) < (bl : Int) := by omega
 have hadd : vaddN 0 0 = 0 := by simp only [qaddN]
 have hlb : vln b = bl := by simp only [qln]; exact hbl.symm
 have h0b : 0 < bl := by omega
 have hg : vgd b 0 = x := by simp only [qgd]; exact hx
 have hw8 : vw .i64 x = x := by rw [qw]; exact wrap_i64 (by omega) (by omega)
 rw [← hbl]
 cbv
 rw [h10]
 cbv
 rw [h11]
 cbv
 rw [ho, hn0]
 cbv
 refine ⟨⟨hin⟩, ⟨by rw [hadd, hlb]; exact h0b⟩, ⟨by rw [hlb]; exact h0b⟩, ?_⟩
 rw [hg, hw8, hgt]
 cbv
 (repeat refine And.intro (fun _ => rfl) ?_)
 refine ⟨[], [0, 1, 2, 3, 4, 5, 6, 7, 8, 9, 10, 11, 12, 13, 14, 15], .tup [.val (.slice none 0 0), .lit .i64 0, .lit .i64 11], (kH cL cB cM bL bM gL gM b cm (.bufA 79 3 An (fun m => [.int .u8 (Oa m), .int .u8 (Ob m), .int .u16 (Oc m)]) Ac)), rfl, rfl, rfl, rfl, rfl, ?_, ?_⟩
 ·exact ⟨rfl, rfl, rfl, fun _ => rfl, rfl, rfl, rfl, rfl, rfl, rfl, rfl, rfl, rfl, rfl, rfl, rfl, rfl, trivial⟩
 ·exact h
theorem tab1c_0 (PT : SV → List SB → List Nat → Prop) (cL cB cM bL bM gL gM b : List Int) (cm cap An Ac acap : Nat) (Oa Ob Oc : Nat → Int) (x : Int) (hx : b.getD 0 0 = x) (hb : 1 ≤ b.length) (hx2 : 0 ≤ x ∧ x < 256) (hm : ¬ 35 < x) (h : PT (.tup [.slice 2 .z 3 1 1, .int .i64 1, .int .i64 0]) (kH cL cB cM bL bM gL gM b cm (.bufA 79 3 1 (fun _ => [.int .u8 x, .int .u8 0, .int .u16 0]) 1)) [2]) : Con Try.prog 34 [.ptr 0 (.n 0) 7 0, .int .u8 1, .slice 1 .z 1 b.length cap, .slice 2 .z 3 An acap] (kH cL cB cM bL bM gL gM b cm (.bufA 79 3 An (fun m => [.int .u8 (Oa m), .int .u8 (Ob m), .int .u16 (Oc m)]) Ac)) PT := by
 refine con_rows (con_gen (con_moves (con_drop (con_walk hmix fn34 ?_))))
 intro vb vc vw vtoN vofN vaddN vsubN vmaxI vminI vcutN vgd vst vln vrep vsub vonto vsplice vstrEq vbyteV vnotB veqB hw qb qc qw qtoN qofN qaddN qsubN qmaxI qminI qcutN qgd qst qln qrep qsub qonto qsplice qstrEq qbyteV qnotB qeqB
 have hgt : vc .gtr x 35 = false := by rw [qc, gtr_false]; exact hm
 clear hm
 have hm := hmix; generalize Try.prog = P at *
 have h10 : vc .eql 1 0 = false := by rw [qc]; rfl
 have h11 : vc .eql 1 1 = true := by rw [qc]; rfl
 obtain ⟨bl, hbl⟩ : ∃ bl, bl = b.length := ⟨_, rfl⟩
 obtain ⟨bi, hbi⟩ : ∃ bi : Int, bi = bl := ⟨_, rfl⟩
 have ho : vofN bl = bi := by simp only [qofN]; exact hbi.symm
 have hn0 : vc .eql bi 0 = false := by rw [qc, eql_false]; omega
 have hin : (0 : Int) ≤ 0 ∧ (0 : Int) < (bl : Int) := by omega
 have hadd : vaddN 0 0 = 0 := by simp only [qaddN]
 have hlb : vln b = bl := by simp only [qln]; exact hbl.symm
 have h0b : 0 < bl := by omega
 have hg : vgd b 0 = x := by simp only [qgd]; exact hx
 have hw8 : vw .i64 x = x := by rw [qw]; exact wrap_i64 (by omega) (by omega)
 rw [← hbl]
 cbv
 rw [h10]
 cbv
 rw [h11]
 cbv
 rw [ho, hn0]
 cbv
 refine ⟨⟨hin⟩, ⟨by rw [hadd, hlb]; exact h0b⟩, ⟨by rw [hlb]; exact h0b⟩, ?_⟩
 rw [hg, hw8, hgt]
 cbv
 refine ⟨⟨hin⟩, ⟨by rw [hadd, hlb]; exact h0b⟩, ⟨by rw [hlb]; exact h0b⟩, ?_⟩
 rw [hg]
 (repeat refine And.intro (fun _ => rfl) ?_)
 refine ⟨[2], [0, 1, 16, 3, 4, 5, 6, 7, 8, 9, 10, 11, 12, 13, 14, 15], .tup [.slice 2 .z 3 1 1, .lit .i64 1, .lit .i64 0], (kH cL cB cM bL bM gL gM b cm (.bufR 79 3 [.int .u8 x, .lit .u8 0, .lit .u16 0] 1)), rfl, rfl, rfl, rfl, rfl, ?_, ?_⟩
 ·exact ⟨rfl, rfl, rfl, rfl, rfl, rfl, rfl, rfl, rfl, rfl, rfl, rfl, rfl, rfl, rfl, rfl, trivial⟩
 ·exact h
theorem tab2a_0 (PT : SV → List SB → List Nat → Prop) (cL cB cM bL bM gL gM b : List Int) (cm cap An Ac acap : Nat) (Oa Ob Oc : Nat → Int) (e : Int) (he : e ≠ 0)
  (hRd : Con Try.prog 70 [.slice 0 .z 1 b.length cap, .int .i64 9, .int .i64 35] [.ro .u8 b] (fun v H R => R = [] ∧ v = .tup [.val (.slice none 0 0), .int .i64 0, .int .i64 0, .int .i64 e] ∧ H = [.ro .u8 b]))
  (h : PT (.tup [.val (.slice none 0 0), .int .i64 0, .int .i64 (if e = 10 then 10 else 11)]) (kH cL cB cM bL bM gL gM b cm (.bufA 79 3 An (fun m => [.int .u8 (Oa m), .int .u8 (Ob m), .int .u16 (Oc m)]) Ac)) []) : Con Try.prog 34 [.ptr 0 (.n 0) 7 0, .int .u8 2, .slice 1 .z 1 b.length cap, .slice 2 .z 3 An acap] (kH cL cB cM bL bM gL gM b cm (.bufA 79 3 An (fun m => [.int .u8 (Oa m), .int .u8 (Ob m), .int .u16 (Oc m)]) Ac)) PT := by
 refine con_rows (con_gen (con_moves (con_drop (con_walk hmix fn34 ?_))))
 intro vb vc vw vtoN vofN vaddN vsubN vmaxI vminI vcutN vgd vst vln vrep vsub vonto vsplice vstrEq vbyteV vnotB veqB hw qb qc qw qtoN qofN qaddN qsubN qmaxI qminI qcutN qgd qst qln qrep qsub qonto qsplice qstrEq qbyteV qnotB qeqB
 have hm := hmix; generalize Try.prog = P at *
 have he0 : vc .eql e 0 = false := by rw [qc, eql_false]; exact he
 have he1 : vc .neq e 0 = true := by rw [qc, neq_true]; exact he
 generalize b.length = bl at *
 have h20 : vc .eql 2 0 = false := by rw [qc]; rfl
 have h21 : vc .eql 2 1 = false := by rw [qc]; rfl
 have h22 : vc .eql 2 2 = true := by rw [qc]; rfl
 cbv
 rw [h20]
 cbv
 rw [h21]
 cbv
 rw [h22]
 cbv
 refine call_con (ρ := [(1, .z)]) hRd ⟨by rfl, by rfl, by rfl, by cbv; refine ⟨fun _ => rfl, ?_⟩; exact ⟨view_refl _, trivial⟩⟩ ?_
 rintro v H R js ⟨rfl, rfl, rfl⟩
 cbv
 (repeat refine And.intro (fun _ => rfl) ?_)
 cbv
 rw [he0]
 cbv
 rw [he1]
 cbv
 by_cases h10 : e = 10
 ·have he2 : vc .neq e 10 = false := by rw [qc, neq_false]; omega
  rw [if_pos h10] at h
  subst h10
  rw [he2]
  cbv
  (repeat refine And.intro (fun _ => rfl) ?_)
  refine ⟨[], [0, 1, 2, 3, 4, 5, 6, 7, 8, 9, 10, 11, 12, 13, 14, 15], .tup [.val (.slice none 0 0), .int .i64 0, .int .i64 10], (kH cL cB cM bL bM gL gM b cm (.bufA 79 3 An (fun m => [.int .u8 (Oa m), .int .u8 (Ob m), .int .u16 (Oc m)]) Ac)), rfl, rfl, rfl, rfl, rfl, ?_, ?_⟩
  ·exact ⟨rfl, rfl, rfl, fun _ => rfl, rfl, rfl, rfl, rfl, rfl, rfl, rfl, rfl, rfl, rfl, rfl, rfl, rfl, trivial⟩
  ·exact h
 ·have he2 : vc .neq e 10 = true := by rw [qc, neq_true]; exact h10
  rw [if_neg h10] at h
  rw [he2]
  cbv
  (repeat refine And.intro (fun _ => rfl) ?_)
  refine ⟨[], [0, 1, 2, 3, 4, 5, 6, 7, 8, 9, 10, 11, 12, 13, 14, 15], .tup [.val (.slice none 0 0), .int .i64 0, .lit .i64 11], (kH cL cB cM bL bM gL gM b cm (.bufA 79 3 An (fun m => [.int .u8 (Oa m), .int .u8 (Ob m), .int .u16 (Oc m)]) Ac)), rfl, rfl, rfl, rfl, rfl, ?_, ?_⟩
  ·exact ⟨rfl, rfl, rfl, fun _ => rfl, rfl, rfl, rfl, rfl, rfl, rfl, rfl, rfl, rfl, rfl, rfl, rfl, rfl, trivial⟩
  ·exact h
theorem tab2b_0 (PT : SV → List SB → List Nat → Prop) (cL cB cM bL bM gL gM b : List Int) (cm cap An Ac acap : Nat) (Oa Ob Oc : Nat → Int) (cs : List Int) (log used : Int)
  (hRd : Con Try.prog 70 [.slice 0 .z 1 b.length cap, .int .i64 9, .int .i64 35] [.ro .u8 b] (fun v H R => R = [] ∧ ∃ c, v = .tup [.slice 1 .z 1 cs.length c, .int .i64 log, .int .i64 used, .int .i64 0] ∧ H = [.ro .u8 b, .buf 124 .i16 cs c]))
  (hT : ∀ c, Con Try.prog 66 [.slice 0 .z 1 cs.length c, .int .i64 log] [.ro .i16 cs] (fun v H R => R = [] ∧ v = .tup [.val (.slice none 0 0), .int .i64 70] ∧ H = [.ro .i16 cs]))
  (h : ∀ u, PT (.tup [.val (.slice none 0 0), .int .i64 u, .int .i64 11]) (kH cL cB cM bL bM gL gM b cm (.bufA 79 3 An (fun m => [.int .u8 (Oa m), .int .u8 (Ob m), .int .u16 (Oc m)]) Ac)) []) : Con Try.prog 34 [.ptr 0 (.n 0) 7 0, .int .u8 2, .slice 1 .z 1 b.length cap, .slice 2 .z 3 An acap] (kH cL cB cM bL bM gL gM b cm (.bufA 79 3 An (fun m => [.int .u8 (Oa m), .int .u8 (Ob m), .int .u16 (Oc m)]) Ac)) PT := by
 refine con_rows (con_gen (con_moves (con_drop (con_walk hmix fn34 ?_))))
 intro vb vc vw vtoN vofN vaddN vsubN vmaxI vminI vcutN vgd vst vln vrep vsub vonto vsplice vstrEq vbyteV vnotB veqB hw qb qc qw qtoN qofN qaddN qsubN qmaxI qminI qcutN qgd qst qln qrep qsub qonto qsplice qstrEq qbyteV qnotB qeqB
 have hm := hmix; generalize Try.prog = P at *
 have h00 : vc .eql 0 0 = true := by rw [qc]; rfl
 have h70 : vc .neq 70 0 = true := by rw [qc]; rfl
 have h71 : vc .neq 70 10 = true := by rw [qc]; rfl
 generalize b.length = bl at *
 generalize cs.length = cl at *
 have h20 : vc .eql 2 0 = false := by rw [qc]; rfl
 have h21 : vc .eql 2 1 = false := by rw [qc]; rfl
 have h22 : vc .eql 2 2 = true := by rw [qc]; rfl
 cbv
 rw [h20]
 cbv
 rw [h21]
 cbv
 rw [h22]
 cbv
 refine call_con (ρ := [(1, .z)]) hRd ⟨by rfl, by rfl, by rfl, by cbv; refine ⟨fun _ => rfl, ?_⟩; exact ⟨view_refl _, trivial⟩⟩ ?_
 rintro v H R js ⟨rfl, c, rfl, rfl⟩
 cbv
 (repeat refine And.intro (fun _ => rfl) ?_)
 cbv
 rw [h00]
 cbv
 refine call_con (ρ := [(16, .z)]) (hT c) ⟨by rfl, by rfl, by rfl, by cbv; refine ⟨fun _ => rfl, ?_⟩; exact ⟨view_refl _, trivial⟩⟩ ?_
 rintro v H R js ⟨rfl, rfl, rfl⟩
 cbv
 (repeat refine And.intro (fun _ => rfl) ?_)
 cbv
 rw [h70]
 cbv
 rw [h71]
 cbv
 (repeat refine And.intro (fun _ => rfl) ?_)
 refine ⟨[], [0, 1, 2, 3, 4, 5, 6, 7, 8, 9, 10, 11, 12, 13, 14, 15], .tup [.val (.slice none 0 0), .int .i64 used, .lit .i64 11], (kH cL cB cM bL bM gL gM b cm (.bufA 79 3 An (fun m => [.int .u8 (Oa m), .int .u8 (Ob m), .int .u16 (Oc m)]) Ac)), rfl, rfl, rfl, rfl, rfl, ?_, ?_⟩
 ·exact ⟨rfl, rfl, rfl, fun _ => rfl, rfl, rfl, rfl, rfl, rfl, rfl, rfl, rfl, rfl, rfl, rfl, rfl, rfl, trivial⟩
 ·exact h used
theorem tab2c_0 (PT : SV → List SB → List Nat → Prop) (cL cB cM bL bM gL gM b : List Int) (cm cap An Ac acap : Nat) (Oa Ob Oc : Nat → Int) (cs : List Int) (log used : Int) (N : Nat) (A B C : Nat → Int)
  (hRd : Con Try.prog 70 [.slice 0 .z 1 b.length cap, .int .i64 9, .int .i64 35] [.ro .u8 b] (fun v H R => R = [] ∧ ∃ c, v = .tup [.slice 1 .z 1 cs.length c, .int .i64 log, .int .i64 used, .int .i64 0] ∧ H = [.ro .u8 b, .buf 124 .i16 cs c]))
  (hT : ∀ c, Con Try.prog 66 [.slice 0 .z 1 cs.length c, .int .i64 log] [.ro .i16 cs] (fun v H R => R = [] ∧ v = .tup [.slice 1 .z 3 N N, .int .i64 0] ∧ H = [.ro .i16 cs, .arr 79 3 N (fun m => [.int .u8 (A m), .int .u8 (B m), .int .u16 (C m)])]))
  (h : PT (.tup [.slice 2 .z 3 N N, .int .i64 used, .int .i64 0]) (kH cL cB cM bL bM gL gM b cm (.bufA 79 3 N (fun m => [.int .u8 (A m), .int .u8 (B m), .int .u16 (C m)]) N)) [2]) : Con Try.prog 34 [.ptr 0 (.n 0) 7 0, .int .u8 2, .slice 1 .z 1 b.length cap, .slice 2 .z 3 An acap] (kH cL cB cM bL bM gL gM b cm (.bufA 79 3 An (fun m => [.int .u8 (Oa m), .int .u8 (Ob m), .int .u16 (Oc m)]) Ac)) PT := by
 refine con_rows (con_gen (con_moves (con_drop (con_walk hmix fn34 ?_))))
 intro vb vc vw vtoN vofN vaddN vsubN vmaxI vminI vcutN vgd vst vln vrep vsub vonto vsplice vstrEq vbyteV vnotB veqB hw qb qc qw qtoN qofN qaddN qsubN qmaxI qminI qcutN qgd qst qln qrep qsub qonto qsplice qstrEq qbyteV qnotB qeqB
 have hm := hmix; generalize Try.prog = P at *
 have h00 : vc .eql 0 0 = true := by rw [qc]; rfl
 have h01 : vc .neq 0 0 = false := by rw [qc]; rfl
 generalize b.length = bl at *
 generalize cs.length = cl at *
 have h20 : vc .eql 2 0 = false := by rw [qc]; rfl
 have h21 : vc .eql 2 1 = false := by rw [qc]; rfl
 have h22 : vc .eql 2 2 = true := by rw [qc]; rfl
 cbv
 rw [h20]
 cbv
 rw [h21]
 cbv
 rw [h22]
 cbv
 refine call_con (ρ := [(1, .z)]) hRd ⟨by rfl, by rfl, by rfl, by cbv; refine ⟨fun _ => rfl, ?_⟩; exact ⟨view_refl _, trivial⟩⟩ ?_
 rintro v H R js ⟨rfl, c, rfl, rfl⟩
 cbv
 (repeat refine And.intro (fun _ => rfl) ?_)
 cbv
 rw [h00]
 cbv
 refine call_con (ρ := [(16, .z)]) (hT c) ⟨by rfl, by rfl, by rfl, by cbv; refine ⟨fun _ => rfl, ?_⟩; exact ⟨view_refl _, trivial⟩⟩ ?_
 rintro v H R js ⟨rfl, rfl, rfl⟩
 cbv
 (repeat refine And.intro (fun _ => rfl) ?_)
 cbv
 rw [h01]
 cbv
 (repeat refine And.intro (fun _ => rfl) ?_)
 refine ⟨[2], [0, 1, 17, 3, 4, 5, 6, 7, 8, 9, 10, 11, 12, 13, 14, 15], .tup [.slice 2 .z 3 N N, .int .i64 used, .int .i64 0], (kH cL cB cM bL bM gL gM b cm (.arr 79 3 N (fun m => [.int .u8 (A m), .int .u8 (B m), .int .u16 (C m)]))), rfl, rfl, rfl, rfl, rfl, ?_, ?_⟩
 ·exact ⟨rfl, rfl, rfl, fun _ => rfl, rfl, rfl, rfl, rfl, rfl, rfl, rfl, rfl, rfl, rfl, rfl, rfl, rfl, trivial⟩
 ·exact h
theorem tab3a_0 (PT : SV → List SB → List Nat → Prop) (cL cB cM bL bM gL gM b : List Int) (cm cap An Ac acap : Nat) (Oa Ob Oc : Nat → Int) (hA : An = 0) (h : PT (.tup [.val (.slice none 0 0), .int .i64 0, .int .i64 11]) (kH cL cB cM bL bM gL gM b cm (.bufA 79 3 An (fun m => [.int .u8 (Oa m), .int .u8 (Ob m), .int .u16 (Oc m)]) Ac)) []) : Con Try.prog 34 [.ptr 0 (.n 0) 7 0, .int .u8 3, .slice 1 .z 1 b.length cap, .slice 2 .z 3 An acap] (kH cL cB cM bL bM gL gM b cm (.bufA 79 3 An (fun m => [.int .u8 (Oa m), .int .u8 (Ob m), .int .u16 (Oc m)]) Ac)) PT := by
 refine con_rows (con_gen (con_moves (con_drop (con_walk hmix fn34 ?_))))
 intro vb vc vw vtoN vofN vaddN vsubN vmaxI vminI vcutN vgd vst vln vrep vsub vonto vsplice vstrEq vbyteV vnotB veqB hw qb qc qw qtoN qofN qaddN qsubN qmaxI qminI qcutN qgd qst qln qrep qsub qonto qsplice qstrEq qbyteV qnotB qeqB
 have hm := hmix; generalize Try.prog = P at *
 have ho : vofN An = 0 := by simp only [qofN]; rw [hA]; rfl
 have h00 : vc .eql 0 0 = true := by rw [qc]; rfl
 have h30 : vc .eql 3 0 = false := by rw [qc]; rfl
 have h31 : vc .eql 3 1 = false := by rw [qc]; rfl
 have h32 : vc .eql 3 2 = false := by rw [qc]; rfl
 generalize b.length = bl at *
 cbv
 rw [h30]
 cbv
 rw [h31]
 cbv
 rw [h32]
 cbv
 rw [ho, h00]
 cbv
 (repeat refine And.intro (fun _ => rfl) ?_)
 refine ⟨[], [0, 1, 2, 3, 4, 5, 6, 7, 8, 9, 10, 11, 12, 13, 14, 15], .tup [.val (.slice none 0 0), .lit .i64 0, .lit .i64 11], (kH cL cB cM bL bM gL gM b cm (.bufA 79 3 An (fun m => [.int .u8 (Oa m), .int .u8 (Ob m), .int .u16 (Oc m)]) Ac)), rfl, rfl, rfl, rfl, rfl, ?_, ?_⟩
 ·exact ⟨rfl, rfl, rfl, fun _ => rfl, rfl, rfl, rfl, rfl, rfl, rfl, rfl, rfl, rfl, rfl, rfl, rfl, rfl, trivial⟩
 ·exact h
theorem tab3b_0 (PT : SV → List SB → List Nat → Prop) (cL cB cM bL bM gL gM b : List Int) (cm cap An Ac acap : Nat) (Oa Ob Oc : Nat → Int) (hA : ¬ An = 0) (h : PT (.tup [.slice 2 .z 3 An acap, .int .i64 0, .int .i64 0]) (kH cL cB cM bL bM gL gM b cm (.bufA 79 3 An (fun m => [.int .u8 (Oa m), .int .u8 (Ob m), .int .u16 (Oc m)]) Ac)) [2]) : Con Try.prog 34 [.ptr 0 (.n 0) 7 0, .int .u8 3, .slice 1 .z 1 b.length cap, .slice 2 .z 3 An acap] (kH cL cB cM bL bM gL gM b cm (.bufA 79 3 An (fun m => [.int .u8 (Oa m), .int .u8 (Ob m), .int .u16 (Oc m)]) Ac)) PT := by
 refine con_rows (con_gen (con_moves (con_drop (con_walk hmix fn34 ?_))))
 intro vb vc vw vtoN vofN vaddN vsubN vmaxI vminI vcutN vgd vst vln vrep vsub vonto vsplice vstrEq vbyteV vnotB veqB hw qb qc qw qtoN qofN qaddN qsubN qmaxI qminI qcutN qgd qst qln qrep qsub qonto qsplice qstrEq qbyteV qnotB qeqB
 have hm := hmix; generalize Try.prog = P at *
 obtain ⟨ni, hni⟩ : ∃ ni : Int, ni = An := ⟨_, rfl⟩
 have ho : vofN An = ni := by simp only [qofN]; exact hni.symm
 have h00 : vc .eql ni 0 = false := by rw [qc, eql_false]; omega
 have h30 : vc .eql 3 0 = false := by rw [qc]; rfl
 have h31 : vc .eql 3 1 = false := by rw [qc]; rfl
 have h32 : vc .eql 3 2 = false := by rw [qc]; rfl
 generalize b.length = bl at *
 cbv
 rw [h30]
 cbv
 rw [h31]
 cbv
 rw [h32]
 cbv
 rw [ho, h00]
 cbv
 (repeat refine And.intro (fun _ => rfl) ?_)
 refine ⟨[2], [0, 1, 2, 3, 4, 5, 6, 7, 8, 9, 10, 11, 12, 13, 14, 15], .tup [.slice 2 .z 3 An acap, .lit .i64 0, .lit .i64 0], (kH cL cB cM bL bM gL gM b cm (.bufA 79 3 An (fun m => [.int .u8 (Oa m), .int .u8 (Ob m), .int .u16 (Oc m)]) Ac)), rfl, rfl, rfl, rfl, rfl, ?_, ?_⟩
 ·exact ⟨rfl, rfl, rfl, fun _ => rfl, rfl, rfl, rfl, rfl, rfl, rfl, rfl, rfl, rfl, rfl, rfl, rfl, rfl, trivial⟩
 ·exact h
theorem tab0_1 (PT : SV → List SB → List Nat → Prop) (cL cB cM bL bM gL gM b : List Int) (cm cap An Ac acap : Nat) (Oa Ob Oc : Nat → Int) (N : Nat) (A B C : Nat → Int) (hlen : cB.length = 29)
  (hT : Con Try.prog 66 [.slice 0 .z 1 cB.length 29, .int .i64 5] [.ro .i16 cB] (fun v H R => R = [] ∧ v = .tup [.slice 1 .z 3 N N, .int .i64 0] ∧ H = [.ro .i16 cB, .arr 79 3 N (fun m => [.int .u8 (A m), .int .u8 (B m), .int .u16 (C m)])]))
  (h : PT (.tup [.slice 2 .z 3 N N, .int .i64 0, .int .i64 0]) (kH cL cB cM bL bM gL gM b cm (.bufA 79 3 N (fun m => [.int .u8 (A m), .int .u8 (B m), .int .u16 (C m)]) N)) [2]) : Con Try.prog 34 [.ptr 0 (.n 1) 7 0, .int .u8 0, .slice 1 .z 1 b.length cap, .slice 2 .z 3 An acap] (kH cL cB cM bL bM gL gM b cm (.bufA 79 3 An (fun m => [.int .u8 (Oa m), .int .u8 (Ob m), .int .u16 (Oc m)]) Ac)) PT := by
 rw [hlen] at hT
 refine con_rows (con_gen (con_moves (con_drop (con_walk hmix fn34 ?_))))
 intro vb vc vw vtoN vofN vaddN vsubN vmaxI vminI vcutN vgd vst vln vrep vsub vonto vsplice vstrEq vbyteV vnotB veqB hw qb qc qw qtoN qofN qaddN qsubN qmaxI qminI qcutN qgd qst qln qrep qsub qonto qsplice qstrEq qbyteV qnotB qeqB
 have hm := hmix; generalize Try.prog = P at *
 have h00 : vc .eql 0 0 = true := by rw [qc]; rfl
 generalize b.length = bl at *
 cbv
 rw [h00]
 cbv
 refine call_con (ρ := [(4, .z)]) hT ⟨by rfl, by rfl, by rfl, by cbv; refine ⟨fun _ => rfl, ?_⟩; exact ⟨view_refl _, trivial⟩⟩ ?_
 rintro v H R js ⟨rfl, rfl, rfl⟩
 cbv
 (repeat refine And.intro (fun _ => rfl) ?_)
 cbv
 refine ⟨[2], [0, 1, 16, 3, 4, 5, 6, 7, 8, 9, 10, 11, 12, 13, 14, 15], .tup [.slice 2 .z 3 N N, .lit .i64 0, .int .i64 0], (kH cL cB cM bL bM gL gM b cm (.arr 79 3 N (fun m => [.int .u8 (A m), .int .u8 (B m), .int .u16 (C m)]))), rfl, rfl, rfl, rfl, rfl, ?_, ?_⟩
 ·exact ⟨rfl, rfl, rfl, fun _ => rfl, rfl, rfl, rfl, rfl, rfl, rfl, rfl, rfl, rfl, rfl, rfl, rfl, rfl, trivial⟩
 ·exact h
theorem tab1a_1 (PT : SV → List SB → List Nat → Prop) (cL cB cM bL bM gL gM b : List Int) (cm cap An Ac acap : Nat) (Oa Ob Oc : Nat → Int) (hb : b.length = 0) (h : PT (.tup [.val (.slice none 0 0), .int .i64 0, .int .i64 10]) (kH cL cB cM bL bM gL gM b cm (.bufA 79 3 An (fun m => [.int .u8 (Oa m), .int .u8 (Ob m), .int .u16 (Oc m)]) Ac)) []) : Con Try.prog 34 [.ptr 0 (.n 1) 7 0, .int .u8 1, .slice 1 .z 1 b.length cap, .slice 2 .z 3 An acap] (kH cL cB cM bL bM gL gM b cm (.bufA 79 3 An (fun m => [.int .u8 (Oa m), .int .u8 (Ob m), .int .u16 (Oc m)]) Ac)) PT := by
 refine con_rows (con_gen (con_moves (con_drop (con_walk hmix fn34 ?_))))
 intro vb vc vw vtoN vofN vaddN vsubN vmaxI vminI vcutN vgd vst vln vrep vsub vonto vsplice vstrEq vbyteV vnotB veqB hw qb qc qw qtoN qofN qaddN qsubN qmaxI qminI qcutN qgd qst qln qrep qsub qonto qsplice qstrEq qbyteV qnotB qeqB
 have hm := hmix; generalize Try.prog = P at *
 have h10 : vc .eql 1 0 = false := by rw [qc]; rfl
 have h11 : vc .eql 1 1 = true := by rw [qc]; rfl
 have h00 : vc .eql 0 0 = true := by rw [qc]; rfl
 have ho : vofN 0 = 0 := by simp only [qofN]; rfl
 rw [hb] at *
 cbv
 rw [h10]
 cbv
 rw [h11]
 cbv
 rw [ho, h00]
 cbv
 (repeat refine And.intro (fun _ => rfl) ?_)
 refine ⟨[], [0, 1, 2, 3, 4, 5, 6, 7, 8, 9, 10, 11, 12, 13, 14, 15], .tup [.val (.slice none 0 0), .lit .i64 0, .lit .i64 10], (kH cL cB cM bL bM gL gM b cm (.bufA 79 3 An (fun m => [.int .u8 (Oa m), .int .u8 (Ob m), .int .u16 (Oc m)]) Ac)), rfl, rfl, rfl, rfl, rfl, ?_, ?_⟩
 ·exact ⟨rfl, rfl, rfl, fun _ => rfl, rfl, rfl, rfl, rfl, rfl, rfl, rfl, rfl, rfl, rfl, rfl, rfl, rfl, trivial⟩
 ·exact h
theorem tab1b_1 (PT : SV → List SB → List Nat → Prop) (cL cB cM bL bM gL gM b : List Int) (cm cap An Ac acap : Nat) (Oa Ob Oc : Nat → Int) (x : Int) (hx : b.getD 0 0 = x) (hb : 1 ≤ b.length) (hx2 : 0 ≤ x ∧ x < 256) (hm : 31 < x) (h : PT (.tup [.val (.slice none 0 0), .int .i64 0, .int .i64 11]) (kH cL cB cM bL bM gL gM b cm (.bufA 79 3 An (fun m => [.int .u8 (Oa m), .int .u8 (Ob m), .int .u16 (Oc m)]) Ac)) []) : Con Try.prog 34 [.ptr 0 (.n 1) 7 0, .int .u8 1, .slice 1 .z 1 b.length cap, .slice 2 .z 3 An acap] (kH cL cB cM bL bM gL gM b cm (.bufA 79 3 An (fun m => [.int .u8 (Oa m), .int .u8 (Ob m), .int .u16 (Oc m)]) Ac)) PT := by
 refine con_rows (con_gen (con_moves (con_drop (con_walk hmix fn34 ?_))))
 intro vb vc vw vtoN vofN vaddN vsubN vmaxI vminI vcutN vgd vst vln vrep vsub vonto vsplice vstrEq vbyteV vnotB veqB hw qb qc qw qtoN qofN qaddN qsubN qmaxI qminI qcutN qgd qst qln qrep qsub qonto qsplice qstrEq qbyteV qnotB qeqB
 have hgt : vc .gtr x 31 = true := by rw [qc, gtr_true]; exact hm
 clear hm
 have hm := hmix; generalize Try.prog = P at *
 have h10 : vc .eql 1 0 = false := by rw [qc]; rfl
 have h11 : vc .eql 1 1 = true := by rw [qc]; rfl
 obtain ⟨bl, hbl⟩ : ∃ bl, bl = b.length := ⟨_, rfl⟩
 obtain ⟨bi, hbi⟩ : ∃ bi : Int, bi = bl := ⟨_, rfl⟩
 have ho : vofN bl = bi := by simp only [qofN]; exact hbi.symm
 have hn0 : vc .eql bi 0 = false := by rw [qc, eql_false]; omega
 have hin : (0 : Int) ≤ 0 ∧ (0 : Int) < (bl : Int) := by omega
 have hadd : vaddN 0 0 = 0 := by simp only [qaddN]
 have hlb : vln b = bl := by simp only [qln]; exact hbl.symm
 have h0b : 0 < bl := by omega
 have hg : vgd b 0 = x := by simp only [qgd]; exact hx
 have hw8 : vw .i64 x = x := by rw [qw]; exact wrap_i64 (by omega) (by omega)
 rw [← hbl]
 cbv
 rw [h10]
 cbv
 rw [h11]
 cbv
 rw [ho, hn0]
 cbv
 refine ⟨⟨hin⟩, ⟨by rw [hadd, hlb]; exact h0b⟩, ⟨by rw [hlb]; exact h0b⟩, ?_⟩
 rw [hg, hw8, hgt]
 cbv
 (repeat refine And.intro (fun _ => rfl) ?_)
 refine ⟨[], [0, 1, 2, 3, 4, 5, 6, 7, 8, 9, 10, 11, 12, 13, 14, 15], .tup [.val (.slice none 0 0), .lit .i64 0, .lit .i64 11], (kH cL cB cM bL bM gL gM b cm (.bufA 79 3 An (fun m => [.int .u8 (Oa m), .int .u8 (Ob m), .int .u16 (Oc m)]) Ac)), rfl, rfl, rfl, rfl, rfl, ?_, ?_⟩
 ·exact ⟨rfl, rfl, rfl, fun _ => rfl, rfl, rfl, rfl, rfl, rfl, rfl, rfl, rfl, rfl, rfl, rfl, rfl, rfl, trivial⟩
 ·exact h
theorem tab1c_1 (PT : SV → List SB → List Nat → Prop) (cL cB cM bL bM gL gM b : List Int) (cm cap An Ac acap : Nat) (Oa Ob Oc : Nat → Int) (x : Int) (hx : b.getD 0 0 = x) (hb : 1 ≤ b.length) (hx2 : 0 ≤ x ∧ x < 256) (hm : ¬ 31 < x) (h : PT (.tup [.slice 2 .z 3 1 1, .int .i64 1, .int .i64 0]) (kH cL cB cM bL bM gL gM b cm (.bufA 79 3 1 (fun _ => [.int .u8 x, .int .u8 0, .int .u16 0]) 1)) [2]) : Con Try.prog 34 [.ptr 0 (.n 1) 7 0, .int .u8 1, .slice 1 .z 1 b.length cap, .slice 2 .z 3 An acap] (kH cL cB cM bL bM gL gM b cm (.bufA 79 3 An (fun m => [.int .u8 (Oa m), .int .u8 (Ob m), .int .u16 (Oc m)]) Ac)) PT := by
 refine con_rows (con_gen (con_moves (con_drop (con_walk hmix fn34 ?_))))
 intro vb vc vw vtoN vofN vaddN vsubN vmaxI vminI vcutN vgd vst vln vrep vsub vonto vsplice vstrEq vbyteV vnotB veqB hw qb qc qw qtoN qofN qaddN qsubN qmaxI qminI qcutN qgd qst qln qrep qsub qonto qsplice qstrEq qbyteV qnotB qeqB
 have hgt : vc .gtr x 31 = false := by rw [qc, gtr_false]; exact hm
 clear hm
 have hm := hmix; generalize Try.prog = P at *
 have h10 : vc .eql 1 0 = false := by rw [qc]; rfl
 have h11 : vc .eql 1 1 = true := by rw [qc]; rfl
 obtain ⟨bl, hbl⟩ : ∃ bl, bl = b.length := ⟨_, rfl⟩
 obtain ⟨bi, hbi⟩ : ∃ bi : Int, bi = bl := ⟨_, rfl⟩
 have ho : vofN bl = bi := by simp only [qofN]; exact hbi.symm
 have hn0 : vc .eql bi 0 = false := by rw [qc, eql_false]; omega
 have hin : (0 : Int) ≤ 0 ∧ (0 : Int) < (bl : Int) := by omega
 have hadd : vaddN 0 0 = 0 := by simp only [qaddN]
 have hlb : vln b = bl := by simp only [qln]; exact hbl.symm
 have h0b : 0 < bl := by omega
 have hg : vgd b 0 = x := by simp only [qgd]; exact hx
 have hw8 : vw .i64 x = x := by rw [qw]; exact wrap_i64 (by omega) (by omega)
 rw [← hbl]
 cbv
 rw [h10]
 cbv
 rw [h11]
 cbv
 rw [ho, hn0]
 cbv
 refine ⟨⟨hin⟩, ⟨by rw [hadd, hlb]; exact h0b⟩, ⟨by rw [hlb]; exact h0b⟩, ?_⟩
 rw [hg, hw8, hgt]
 cbv
 refine ⟨⟨hin⟩, ⟨by rw [hadd, hlb]; exact h0b⟩, ⟨by rw [hlb]; exact h0b⟩, ?_⟩
 rw [hg]
 (repeat refine And.intro (fun _ => rfl) ?_)
 refine ⟨[2], [0, 1, 16, 3, 4, 5, 6, 7, 8, 9, 10, 11, 12, 13, 14, 15], .tup [.slice 2 .z 3 1 1, .lit .i64 1, .lit .i64 0], (kH cL cB cM bL bM gL gM b cm (.bufR 79 3 [.int .u8 x, .lit .u8 0, .lit .u16 0] 1)), rfl, rfl, rfl, rfl, rfl, ?_, ?_⟩
 ·exact ⟨rfl, rfl, rfl, rfl, rfl, rfl, rfl, rfl, rfl, rfl, rfl, rfl, rfl, rfl, rfl, rfl, trivial⟩
 ·exact h
theorem tab2a_1 (PT : SV → List SB → List Nat → Prop) (cL cB cM bL bM gL gM b : List Int) (cm cap An Ac acap : Nat) (Oa Ob Oc : Nat → Int) (e : Int) (he : e ≠ 0)
  (hRd : Con Try.prog 70 [.slice 0 .z 1 b.length cap, .int .i64 8, .int .i64 31] [.ro .u8 b] (fun v H R => R = [] ∧ v = .tup [.val (.slice none 0 0), .int .i64 0, .int .i64 0, .int .i64 e] ∧ H = [.ro .u8 b]))
  (h : PT (.tup [.val (.slice none 0 0), .int .i64 0, .int .i64 (if e = 10 then 10 else 11)]) (kH cL cB cM bL bM gL gM b cm (.bufA 79 3 An (fun m => [.int .u8 (Oa m), .int .u8 (Ob m), .int .u16 (Oc m)]) Ac)) []) : Con Try.prog 34 [.ptr 0 (.n 1) 7 0, .int .u8 2, .slice 1 .z 1 b.length cap, .slice 2 .z 3 An acap] (kH cL cB cM bL bM gL gM b cm (.bufA 79 3 An (fun m => [.int .u8 (Oa m), .int .u8 (Ob m), .int .u16 (Oc m)]) Ac)) PT := by
 refine con_rows (con_gen (con_moves (con_drop (con_walk hmix fn34 ?_))))
 intro vb vc vw vtoN vofN vaddN vsubN vmaxI vminI vcutN vgd vst vln vrep vsub vonto vsplice vstrEq vbyteV vnotB veqB hw qb qc qw qtoN qofN qaddN qsubN qmaxI qminI qcutN qgd qst qln qrep qsub qonto qsplice qstrEq qbyteV qnotB qeqB
 have hm := hmix; generalize Try.prog = P at *
 have he0 : vc .eql e 0 = false := by rw [qc, eql_false]; exact he
 have he1 : vc .neq e 0 = true := by rw [qc, neq_true]; exact he
 generalize b.length = bl at *
 have h20 : vc .eql 2 0 = false := by rw [qc]; rfl
 have h21 : vc .eql 2 1 = false := by rw [qc]; rfl
 have h22 : vc .eql 2 2 = true := by rw [qc]; rfl
 cbv
 rw [h20]
 cbv
 rw [h21]
 cbv
 rw [h22]
 cbv
 refine call_con (ρ := [(1, .z)]) hRd ⟨by rfl, by rfl, by rfl, by cbv; refine ⟨fun _ => rfl, ?_⟩; exact ⟨view_refl _, trivial⟩⟩ ?_
 rintro v H R js ⟨rfl, rfl, rfl⟩
 cbv
 (repeat refine And.intro (fun _ => rfl) ?_)
 cbv
 rw [he0]
 cbv
 rw [he1]
 cbv
 by_cases h10 : e = 10
 ·have he2 : vc .neq e 10 = false := by rw [qc, neq_false]; omega
  rw [if_pos h10] at h
  subst h10
  rw [he2]
  cbv
  (repeat refine And.intro (fun _ => rfl) ?_)
  refine ⟨[], [0, 1, 2, 3, 4, 5, 6, 7, 8, 9, 10, 11, 12, 13, 14, 15], .tup [.val (.slice none 0 0), .int .i64 0, .int .i64 10], (kH cL cB cM bL bM gL gM b cm (.bufA 79 3 An (fun m => [.int .u8 (Oa m), .int .u8 (Ob m), .int .u16 (Oc m)]) Ac)), rfl, rfl, rfl, rfl, rfl, ?_, ?_⟩
  ·exact ⟨rfl, rfl, rfl, fun _ => rfl, rfl, rfl, rfl, rfl, rfl, rfl, rfl, rfl, rfl, rfl, rfl, rfl, rfl, trivial⟩
  ·exact h
 ·have he2 : vc .neq e 10 = true := by rw [qc, neq_true]; exact h10
  rw [if_neg h10] at h
  rw [he2]
  cbv
  (repeat refine And.intro (fun _ => rfl) ?_)
  refine ⟨[], [0, 1, 2, 3, 4, 5, 6, 7, 8, 9, 10, 11, 12, 13, 14, 15], .tup [.val (.slice none 0 0), .int .i64 0, .lit .i64 11], (kH cL cB cM bL bM gL gM b cm (.bufA 79 3 An (fun m => [.int .u8 (Oa m), .int .u8 (Ob m), .int .u16 (Oc m)]) Ac)), rfl, rfl, rfl, rfl, rfl, ?_, ?_⟩
  ·exact ⟨rfl, rfl, rfl, fun _ => rfl, rfl, rfl, rfl, rfl, rfl, rfl, rfl, rfl, rfl, rfl, rfl, rfl, rfl, trivial⟩
  ·exact h
theorem tab2b_1 (PT : SV → List SB → List Nat → Prop) (cL cB cM bL bM gL gM b : List Int) (cm cap An Ac acap : Nat) (Oa Ob Oc : Nat → Int) (cs : List Int) (log used : Int)
  (hRd : Con Try.prog 70 [.slice 0 .z 1 b.length cap, .int .i64 8, .int .i64 31] [.ro .u8 b] (fun v H R => R = [] ∧ ∃ c, v = .tup [.slice 1 .z 1 cs.length c, .int .i64 log, .int .i64 used, .int .i64 0] ∧ H = [.ro .u8 b, .buf 124 .i16 cs c]))
  (hT : ∀ c, Con Try.prog 66 [.slice 0 .z 1 cs.length c, .int .i64 log] [.ro .i16 cs] (fun v H R => R = [] ∧ v = .tup [.val (.slice none 0 0), .int .i64 70] ∧ H = [.ro .i16 cs]))
  (h : ∀ u, PT (.tup [.val (.slice none 0 0), .int .i64 u, .int .i64 11]) (kH cL cB cM bL bM gL gM b cm (.bufA 79 3 An (fun m => [.int .u8 (Oa m), .int .u8 (Ob m), .int .u16 (Oc m)]) Ac)) []) : Con Try.prog 34 [.ptr 0 (.n 1) 7 0, .int .u8 2, .slice 1 .z 1 b.length cap, .slice 2 .z 3 An acap] (kH cL cB cM bL bM gL gM b cm (.bufA 79 3 An (fun m => [.int .u8 (Oa m), .int .u8 (Ob m), .int .u16 (Oc m)]) Ac)) PT := by
 refine con_rows (con_gen (con_moves (con_drop (con_walk hmix fn34 ?_))))
 intro vb vc vw vtoN vofN vaddN vsubN vmaxI vminI vcutN vgd vst vln vrep vsub vonto vsplice vstrEq vbyteV vnotB veqB hw qb qc qw qtoN qofN qaddN qsubN qmaxI qminI qcutN qgd qst qln qrep qsub qonto qsplice qstrEq qbyteV qnotB qeqB
 have hm := hmix; generalize Try.prog = P at *
 have h00 : vc .eql 0 0 = true := by rw [qc]; rfl
 have h70 : vc .neq 70 0 = true := by rw [qc]; rfl
 have h71 : vc .neq 70 10 = true := by rw [qc]; rfl
 generalize b.length = bl at *
 generalize cs.length = cl at *
 have h20 : vc .eql 2 0 = false := by rw [qc]; rfl
 have h21 : vc .eql 2 1 = false := by rw [qc]; rfl
 have h22 : vc .eql 2 2 = true := by rw [qc]; rfl
 cbv
 rw [h20]
 cbv
 rw [h21]
 cbv
 rw [h22]
 cbv
 refine call_con (ρ := [(1, .z)]) hRd ⟨by rfl, by rfl, by rfl, by cbv; refine ⟨fun _ => rfl, ?_⟩; exact ⟨view_refl _, trivial⟩⟩ ?_
 rintro v H R js ⟨rfl, c, rfl, rfl⟩
 cbv
 (repeat refine And.intro (fun _ => rfl) ?_)
 cbv
 rw [h00]
 cbv
 refine call_con (ρ := [(16, .z)]) (hT c) ⟨by rfl, by rfl, by rfl, by cbv; refine ⟨fun _ => rfl, ?_⟩; exact ⟨view_refl _, trivial⟩⟩ ?_
 rintro v H R js ⟨rfl, rfl, rfl⟩
 cbv
 (repeat refine And.intro (fun _ => rfl) ?_)
 cbv
 rw [h70]
 cbv
 rw [h71]
 cbv
 (repeat refine And.intro (fun _ => rfl) ?_)
 refine ⟨[], [0, 1, 2, 3, 4, 5, 6, 7, 8, 9, 10, 11, 12, 13, 14, 15], .tup [.val (.slice none 0 0), .int .i64 used, .lit .i64 11], (kH cL cB cM bL bM gL gM b cm (.bufA 79 3 An (fun m => [.int .u8 (Oa m), .int .u8 (Ob m), .int .u16 (Oc m)]) Ac)), rfl, rfl, rfl, rfl, rfl, ?_, ?_⟩
 ·exact ⟨rfl, rfl, rfl, fun _ => rfl, rfl, rfl, rfl, rfl, rfl, rfl, rfl, rfl, rfl, rfl, rfl, rfl, rfl, trivial⟩
 ·exact h used
theorem tab2c_1 (PT : SV → List SB → List Nat → Prop) (cL cB cM bL bM gL gM b : List Int) (cm cap An Ac acap : Nat) (Oa Ob Oc : Nat → Int) (cs : List Int) (log used : Int) (N : Nat) (A B C : Nat → Int)
  (hRd : Con Try.prog 70 [.slice 0 .z 1 b.length cap, .int .i64 8, .int .i64 31] [.ro .u8 b] (fun v H R => R = [] ∧ ∃ c, v = .tup [.slice 1 .z 1 cs.length c, .int .i64 log, .int .i64 used, .int .i64 0] ∧ H = [.ro .u8 b, .buf 124 .i16 cs c]))
  (hT : ∀ c, Con Try.prog 66 [.slice 0 .z 1 cs.length c, .int .i64 log] [.ro .i16 cs] (fun v H R => R = [] ∧ v = .tup [.slice 1 .z 3 N N, .int .i64 0] ∧ H = [.ro .i16 cs, .arr 79 3 N (fun m => [.int .u8 (A m), .int .u8 (B m), .int .u16 (C m)])]))
  (h : PT (.tup [.slice 2 .z 3 N N, .int .i64 used, .int .i64 0]) (kH cL cB cM bL bM gL gM b cm (.bufA 79 3 N (fun m => [.int .u8 (A m), .int .u8 (B m), .int .u16 (C m)]) N)) [2]) : Con Try.prog 34 [.ptr 0 (.n 1) 7 0, .int .u8 2, .slice 1 .z 1 b.length cap, .slice 2 .z 3 An acap] (kH cL cB cM bL bM gL gM b cm (.bufA 79 3 An (fun m => [.int .u8 (Oa m), .int .u8 (Ob m), .int .u16 (Oc m)]) Ac)) PT := by
 refine con_rows (con_gen (con_moves (con_drop (con_walk hmix fn34 ?_))))
 intro vb vc vw vtoN vofN vaddN vsubN vmaxI vminI vcutN vgd vst vln vrep vsub vonto vsplice vstrEq vbyteV vnotB veqB hw qb qc qw qtoN qofN qaddN qsubN qmaxI qminI qcutN qgd qst qln qrep qsub qonto qsplice qstrEq qbyteV qnotB qeqB
 have hm := hmix; generalize Try.prog = P at *
 have h00 : vc .eql 0 0 = true := by rw [qc]; rfl
 have h01 : vc .neq 0 0 = false := by rw [qc]; rfl
 generalize b.length = bl at *
 generalize cs.length = cl at *
 have h20 : vc .eql 2 0 = false := by rw [qc]; rfl
 have h21 : vc .eql 2 1 = false := by rw [qc]; rfl
 have h22 : vc .eql 2 2 = true := by rw [qc]; rfl
 cbv
 rw [h20]
 cbv
 rw [h21]
 cbv
 rw [h22]
 cbv
 refine call_con (ρ := [(1, .z)]) hRd ⟨by rfl, by rfl, by rfl, by cbv; refine ⟨fun _ => rfl, ?_⟩; exact ⟨view_refl _, trivial⟩⟩ ?_
 rintro v H R js ⟨rfl, c, rfl, rfl⟩
 cbv
 (repeat refine And.intro (fun _ => rfl) ?_)
 cbv
 rw [h00]
 cbv
 refine call_con (ρ := [(16, .z)]) (hT c) ⟨by rfl, by rfl, by rfl, by cbv; refine ⟨fun _ => rfl, ?_⟩; exact ⟨view_refl _, trivial⟩⟩ ?_
 rintro v H R js ⟨rfl, rfl, rfl⟩
 cbv
 (repeat refine And.intro (fun _ => rfl) ?_)
 cbv
 rw [h01]
 cbv
 (repeat refine And.intro (fun _ => rfl) ?_)
 refine ⟨[2], [0, 1, 17, 3, 4, 5, 6, 7, 8, 9, 10, 11, 12, 13, 14, 15], .tup [.slice 2 .z 3 N N, .int .i64 used, .int .i64 0], (kH cL cB cM bL bM gL gM b cm (.arr 79 3 N (fun m => [.int .u8 (A m), .int .u8 (B m), .int .u16 (C m)]))), rfl, rfl, rfl, rfl, rfl, ?_, ?_⟩
 ·exact ⟨rfl, rfl, rfl, fun _ => rfl, rfl, rfl, rfl, rfl, rfl, rfl, rfl, rfl, rfl, rfl, rfl, rfl, rfl, trivial⟩
 ·exact h
theorem tab3a_1 (PT : SV → List SB → List Nat → Prop) (cL cB cM bL bM gL gM b : List Int) (cm cap An Ac acap : Nat) (Oa Ob Oc : Nat → Int) (hA : An = 0) (h : PT (.tup [.val (.slice none 0 0), .int .i64 0, .int .i64 11]) (kH cL cB cM bL bM gL gM b cm (.bufA 79 3 An (fun m => [.int .u8 (Oa m), .int .u8 (Ob m), .int .u16 (Oc m)]) Ac)) []) : Con Try.prog 34 [.ptr 0 (.n 1) 7 0, .int .u8 3, .slice 1 .z 1 b.length cap, .slice 2 .z 3 An acap] (kH cL cB cM bL bM gL gM b cm (.bufA 79 3 An (fun m => [.int .u8 (Oa m), .int .u8 (Ob m), .int .u16 (Oc m)]) Ac)) PT := by
 refine con_rows (con_gen (con_moves (con_drop (con_walk hmix fn34 ?_))))
 intro vb vc vw vtoN vofN vaddN vsubN vmaxI vminI vcutN vgd vst vln vrep vsub vonto vsplice vstrEq vbyteV vnotB veqB hw qb qc qw qtoN qofN qaddN qsubN qmaxI qminI qcutN qgd qst qln qrep qsub qonto qsplice qstrEq qbyteV qnotB qeqB
 have hm := hmix; generalize Try.prog = P at *
 have ho : vofN An = 0 := by simp only [qofN]; rw [hA]; rfl
 have h00 : vc .eql 0 0 = true := by rw [qc]; rfl
 have h30 : vc .eql 3 0 = false := by rw [qc]; rfl
 have h31 : vc .eql 3 1 = false := by rw [qc]; rfl
 have h32 : vc .eql 3 2 = false := by rw [qc]; rfl
 generalize b.length = bl at *
 cbv
 rw [h30]
 cbv
 rw [h31]
 cbv
 rw [h32]
 cbv
 rw [ho, h00]
 cbv
 (repeat refine And.intro (fun _ => rfl) ?_)
 refine ⟨[], [0, 1, 2, 3, 4, 5, 6, 7, 8, 9, 10, 11, 12, 13, 14, 15], .tup [.val (.slice none 0 0), .lit .i64 0, .lit .i64 11], (kH cL cB cM bL bM gL gM b cm (.bufA 79 3 An (fun m => [.int .u8 (Oa m), .int .u8 (Ob m), .int .u16 (Oc m)]) Ac)), rfl, rfl, rfl, rfl, rfl, ?_, ?_⟩
 ·exact ⟨rfl, rfl, rfl, fun _ => rfl, rfl, rfl, rfl, rfl, rfl, rfl, rfl, rfl, rfl, rfl, rfl, rfl, rfl, trivial⟩
 ·exact h
theorem tab3b_1 (PT : SV → List SB → List Nat → Prop) (cL cB cM bL bM gL gM b : List Int) (cm cap An Ac acap : Nat) (Oa Ob Oc : Nat → Int) (hA : ¬ An = 0) (h : PT (.tup [.slice 2 .z 3 An acap, .int .i64 0, .int .i64 0]) (kH cL cB cM bL bM gL gM b cm (.bufA 79 3 An (fun m => [.int .u8 (Oa m), .int .u8 (Ob m), .int .u16 (Oc m)]) Ac)) [2]) : Con Try.prog 34 [.ptr 0 (.n 1) 7 0, .int .u8 3, .slice 1 .z 1 b.length cap, .slice 2 .z 3 An acap] (kH cL cB cM bL bM gL gM b cm (.bufA 79 3 An (fun m => [.int .u8 (Oa m), .int .u8 (Ob m), .int .u16 (Oc m)]) Ac)) PT := by
 refine con_rows (con_gen (con_moves (con_drop (con_walk hmix fn34 ?_))))
 intro vb vc vw vtoN vofN vaddN vsubN vmaxI vminI vcutN vgd vst vln vrep vsub vonto vsplice vstrEq vbyteV vnotB veqB hw qb qc qw qtoN qofN qaddN qsubN qmaxI qminI qcutN qgd qst qln qrep qsub qonto qsplice qstrEq qbyteV qnotB qeqB
 have hm := hmix; generalize Try.prog = P at *
 obtain ⟨ni, hni⟩ : ∃ ni : Int, ni = An := ⟨_, rfl⟩
 have ho : vofN An = ni := by simp only [qofN]; exact hni.symm
 have h00 : vc .eql ni 0 = false := by rw [qc, eql_false]; omega
 have h30 : vc .eql 3 0 = false := by rw [qc]; rfl
 have h31 : vc .eql 3 1 = false := by rw [qc]; rfl
 have h32 : vc .eql 3 2 = false := by rw [qc]; rfl
 generalize b.length = bl at *
 cbv
 rw [h30]
 cbv
 rw [h31]
 cbv
 rw [h32]
 cbv
 rw [ho, h00]
 cbv
 (repeat refine And.intro (fun _ => rfl) ?_)
 refine ⟨[2], [0, 1, 2, 3, 4, 5, 6, 7, 8, 9, 10, 11, 12, 13, 14, 15], .tup [.slice 2 .z 3 An acap, .lit .i64 0, .lit .i64 0], (kH cL cB cM bL bM gL gM b cm (.bufA 79 3 An (fun m => [.int .u8 (Oa m), .int .u8 (Ob m), .int .u16 (Oc m)]) Ac)), rfl, rfl, rfl, rfl, rfl, ?_, ?_⟩
 ·exact ⟨rfl, rfl, rfl, fun _ => rfl, rfl, rfl, rfl, rfl, rfl, rfl, rfl, rfl, rfl, rfl, rfl, rfl, rfl, trivial⟩
 ·exact h
theorem tab0_2 (PT : SV → List SB → List Nat → Prop) (cL cB cM bL bM gL gM b : List Int) (cm cap An Ac acap : Nat) (Oa Ob Oc : Nat → Int) (N : Nat) (A B C : Nat → Int) (hlen : cM.length = 53)
  (hT : Con Try.prog 66 [.slice 0 .z 1 cM.length cm, .int .i64 6] [.ro .i16 cM] (fun v H R => R = [] ∧ v = .tup [.slice 1 .z 3 N N, .int .i64 0] ∧ H = [.ro .i16 cM, .arr 79 3 N (fun m => [.int .u8 (A m), .int .u8 (B m), .int .u16 (C m)])]))
  (h : PT (.tup [.slice 2 .z 3 N N, .int .i64 0, .int .i64 0]) (kH cL cB cM bL bM gL gM b cm (.bufA 79 3 N (fun m => [.int .u8 (A m), .int .u8 (B m), .int .u16 (C m)]) N)) [2]) : Con Try.prog 34 [.ptr 0 (.n 2) 7 0, .int .u8 0, .slice 1 .z 1 b.length cap, .slice 2 .z 3 An acap] (kH cL cB cM bL bM gL gM b cm (.bufA 79 3 An (fun m => [.int .u8 (Oa m), .int .u8 (Ob m), .int .u16 (Oc m)]) Ac)) PT := by
 rw [hlen] at hT
 refine con_rows (con_gen (con_moves (con_drop (con_walk hmix fn34 ?_))))
 intro vb vc vw vtoN vofN vaddN vsubN vmaxI vminI vcutN vgd vst vln vrep vsub vonto vsplice vstrEq vbyteV vnotB veqB hw qb qc qw qtoN qofN qaddN qsubN qmaxI qminI qcutN qgd qst qln qrep qsub qonto qsplice qstrEq qbyteV qnotB qeqB
 have hm := hmix; generalize Try.prog = P at *
 have h00 : vc .eql 0 0 = true := by rw [qc]; rfl
 generalize b.length = bl at *
 cbv
 rw [h00]
 cbv
 refine call_con (ρ := [(5, .z)]) hT ⟨by rfl, by rfl, by rfl, by cbv; refine ⟨fun _ => rfl, ?_⟩; exact ⟨view_refl _, trivial⟩⟩ ?_
 rintro v H R js ⟨rfl, rfl, rfl⟩
 cbv
 (repeat refine And.intro (fun _ => rfl) ?_)
 cbv
 refine ⟨[2], [0, 1, 16, 3, 4, 5, 6, 7, 8, 9, 10, 11, 12, 13, 14, 15], .tup [.slice 2 .z 3 N N, .lit .i64 0, .int .i64 0], (kH cL cB cM bL bM gL gM b cm (.arr 79 3 N (fun m => [.int .u8 (A m), .int .u8 (B m), .int .u16 (C m)]))), rfl, rfl, rfl, rfl, rfl, ?_, ?_⟩
 ·exact ⟨rfl, rfl, rfl, fun _ => rfl, rfl, rfl, rfl, rfl, rfl, rfl, rfl, rfl, rfl, rfl, rfl, rfl, rfl, trivial⟩
 ·exact h
theorem tab1a_2 (PT : SV → List SB → List Nat → Prop) (cL cB cM bL bM gL gM b : List Int) (cm cap An Ac acap : Nat) (Oa Ob Oc : Nat → Int) (hb : b.length = 0) (h : PT (.tup [.val (.slice none 0 0), .int .i64 0, .int .i64 10]) (kH cL cB cM bL bM gL gM b cm (.bufA 79 3 An (fun m => [.int .u8 (Oa m), .int .u8 (Ob m), .int .u16 (Oc m)]) Ac)) []) : Con Try.prog 34 [.ptr 0 (.n 2) 7 0, .int .u8 1, .slice 1 .z 1 b.length cap, .slice 2 .z 3 An acap] (kH cL cB cM bL bM gL gM b cm (.bufA 79 3 An (fun m => [.int .u8 (Oa m), .int .u8 (Ob m), .int .u16 (Oc m)]) Ac)) PT := by
 refine con_rows (con_gen (con_moves (con_drop (con_walk hmix fn34 ?_))))
 intro vb vc vw vtoN vofN vaddN vsubN vmaxI vminI vcutN vgd vst vln vrep vsub vonto vsplice vstrEq vbyteV vnotB veqB hw qb qc qw qtoN qofN qaddN qsubN qmaxI qminI qcutN qgd qst qln qrep qsub qonto qsplice qstrEq qbyteV qnotB qeqB
 have hm := hmix; generalize Try.prog = P at *
 have h10 : vc .eql 1 0 = false := by rw [qc]; rfl
 have h11 : vc .eql 1 1 = true := by rw [qc]; rfl
 have h00 : vc .eql 0 0 = true := by rw [qc]; rfl
 have ho : vofN 0 = 0 := by simp only [qofN]; rfl
 rw [hb] at *
 cbv
 rw [h10]
 cbv
 rw [h11]
 cbv
 rw [ho, h00]
 cbv
 (repeat refine And.intro (fun _ => rfl) ?_)
 refine ⟨[], [0, 1, 2, 3, 4, 5, 6, 7, 8, 9, 10, 11, 12, 13, 14, 15], .tup [.val (.slice none 0 0), .lit .i64 0, .lit .i64 10], (kH cL cB cM bL bM gL gM b cm (.bufA 79 3 An (fun m => [.int .u8 (Oa m), .int .u8 (Ob m), .int .u16 (Oc m)]) Ac)), rfl, rfl, rfl, rfl, rfl, ?_, ?_⟩
 ·exact ⟨rfl, rfl, rfl, fun _ => rfl, rfl, rfl, rfl, rfl, rfl, rfl, rfl, rfl, rfl, rfl, rfl, rfl, rfl, trivial⟩
 ·exact h
theorem tab1b_2 (PT : SV → List SB → List Nat → Prop) (cL cB cM bL bM gL gM b : List Int) (cm cap An Ac acap : Nat) (Oa Ob Oc : Nat → Int) (x : Int) (hx : b.getD 0 0 = x) (hb : 1 ≤ b.length) (hx2 : 0 ≤ x ∧ x < 256) (hm : 52 < x) (h : PT (.tup [.val (.slice none 0 0), .int .i64 0, .int .i64 11]) (kH cL cB cM bL bM gL gM b cm (.bufA 79 3 An (fun m => [.int .u8 (Oa m), .int .u8 (Ob m), .int .u16 (Oc m)]) Ac)) []) : Con Try.prog 34 [.ptr 0 (.n 2) 7 0, .int .u8 1, .slice 1 .z 1 b.length cap, .slice 2 .z 3 An acap] (kH cL cB cM bL bM gL gM b cm (.bufA 79 3 An (fun m => [.int .u8 (Oa m), .int .u8 (Ob m), .int .u16 (Oc m)]) Ac)) PT := by
 refine con_rows (con_gen (con_moves (con_drop (con_walk hmix fn34 ?_))))
 intro vb vc vw vtoN vofN vaddN vsubN vmaxI vminI vcutN vgd vst vln vrep vsub vonto vsplice vstrEq vbyteV vnotB veqB hw qb qc qw qtoN qofN qaddN qsubN qmaxI qminI qcutN qgd qst qln qrep qsub qonto qsplice qstrEq qbyteV qnotB qeqB
 have hgt : vc .gtr x 52 = true := by rw [qc, gtr_true]; exact hm
 clear hm
 have hm := hmix; generalize Try.prog = P at *
 have h10 : vc .eql 1 0 = false := by rw [qc]; rfl
 have h11 : vc .eql 1 1 = true := by rw [qc]; rfl
 obtain ⟨bl, hbl⟩ : ∃ bl, bl = b.length := ⟨_, rfl⟩
 obtain ⟨bi, hbi⟩ : ∃ bi : Int, bi = bl := ⟨_, rfl⟩
 have ho : vofN bl = bi := by simp only [qofN]; exact hbi.symm
 have hn0 : vc .eql bi 0 = false := by rw [qc, eql_false]; omega
 have hin : (0 : Int) ≤ 0 ∧ (0 : Int) < (bl : Int) := by omega
 have hadd : vaddN 0 0 = 0 := by simp only [qaddN]
 have hlb : vln b = bl := by simp only [qln]; exact hbl.symm
 have h0b : 0 < bl := by omega
 have hg : vgd b 0 = x := by simp only [qgd]; exact hx
 have hw8 : vw .i64 x = x := by rw [qw]; exact wrap_i64 (by omega) (by omega)
 rw [← hbl]
 cbv
 rw [h10]
 cbv
 rw [h11]
 cbv
 rw [ho, hn0]
 cbv
 refine ⟨⟨hin⟩, ⟨by rw [hadd, hlb]; exact h0b⟩, ⟨by rw [hlb]; exact h0b⟩, ?_⟩
 rw [hg, hw8, hgt]
 cbv
 (repeat refine And.intro (fun _ => rfl) ?_)
 refine ⟨[], [0, 1, 2, 3, 4, 5, 6, 7, 8, 9, 10, 11, 12, 13, 14, 15], .tup [.val (.slice none 0 0), .lit .i64 0, .lit .i64 11], (kH cL cB cM bL bM gL gM b cm (.bufA 79 3 An (fun m => [.int .u8 (Oa m), .int .u8 (Ob m), .int .u16 (Oc m)]) Ac)), rfl, rfl, rfl, rfl, rfl, ?_, ?_⟩
 ·exact ⟨rfl, rfl, rfl, fun _ => rfl, rfl, rfl, rfl, rfl, rfl, rfl, rfl, rfl, rfl, rfl, rfl, rfl, rfl, trivial⟩
 ·exact h
theorem tab1c_2 (PT : SV → List SB → List Nat → Prop) (cL cB cM bL bM gL gM b : List Int) (cm cap An Ac acap : Nat) (Oa Ob Oc : Nat → Int) (x : Int) (hx : b.getD 0 0 = x) (hb : 1 ≤ b.length) (hx2 : 0 ≤ x ∧ x < 256) (hm : ¬ 52 < x) (h : PT (.tup [.slice 2 .z 3 1 1, .int .i64 1, .int .i64 0]) (kH cL cB cM bL bM gL gM b cm (.bufA 79 3 1 (fun _ => [.int .u8 x, .int .u8 0, .int .u16 0]) 1)) [2]) : Con Try.prog 34 [.ptr 0 (.n 2) 7 0, .int .u8 1, .slice 1 .z 1 b.length cap, .slice 2 .z 3 An acap] (kH cL cB cM bL bM gL gM b cm (.bufA 79 3 An (fun m => [.int .u8 (Oa m), .int .u8 (Ob m), .int .u16 (Oc m)]) Ac)) PT := by
 refine con_rows (con_gen (con_moves (con_drop (con_walk hmix fn34 ?_))))
 intro vb vc vw vtoN vofN vaddN vsubN vmaxI vminI vcutN vgd vst vln vrep vsub vonto vsplice vstrEq vbyteV vnotB veqB hw qb qc qw qtoN qofN qaddN qsubN qmaxI qminI qcutN qgd qst qln qrep qsub qonto qsplice qstrEq qbyteV qnotB qeqB
 have hgt : vc .gtr x 52 = false := by rw [qc, gtr_false]; exact hm
 clear hm
 have hm := hmix; generalize Try.prog = P at *
 have h10 : vc .eql 1 0 = false := by rw [qc]; rfl
 have h11 : vc .eql 1 1 = true := by rw [qc]; rfl
 obtain ⟨bl, hbl⟩ : ∃ bl, bl = b.length := ⟨_, rfl⟩
 obtain ⟨bi, hbi⟩ : ∃ bi : Int, bi = bl := ⟨_, rfl⟩
 have ho : vofN bl = bi := by simp only [qofN]; exact hbi.symm
 have hn0 : vc .eql bi 0 = false := by rw [qc, eql_false]; omega
 have hin : (0 : Int) ≤ 0 ∧ (0 : Int) < (bl : Int) := by omega
 have hadd : vaddN 0 0 = 0 := by simp only [qaddN]
 have hlb : vln b = bl := by simp only [qln]; exact hbl.symm
 have h0b : 0 < bl := by omega
 have hg : vgd b 0 = x := by simp only [qgd]; exact hx
 have hw8 : vw .i64 x = x := by rw [qw]; exact wrap_i64 (by omega) (by omega)
 rw [← hbl]
 cbv
 rw [h10]
 cbv
 rw [h11]
 cbv
 rw [ho, hn0]
 cbv
 refine ⟨⟨hin⟩, ⟨by rw [hadd, hlb]; exact h0b⟩, ⟨by rw [hlb]; exact h0b⟩, ?_⟩
 rw [hg, hw8, hgt]
 cbv
 refine ⟨⟨hin⟩, ⟨by rw [hadd, hlb]; exact h0b⟩, ⟨by rw [hlb]; exact h0b⟩, ?_⟩
 rw [hg]
 (repeat refine And.intro (fun _ => rfl) ?_)
 refine ⟨[2], [0, 1, 16, 3, 4, 5, 6, 7, 8, 9, 10, 11, 12, 13, 14, 15], .tup [.slice 2 .z 3 1 1, .lit .i64 1, .lit .i64 0], (kH cL cB cM bL bM gL gM b cm (.bufR 79 3 [.int .u8 x, .lit .u8 0, .lit .u16 0] 1)), rfl, rfl, rfl, rfl, rfl, ?_, ?_⟩
 ·exact ⟨rfl, rfl, rfl, rfl, rfl, rfl, rfl, rfl, rfl, rfl, rfl, rfl, rfl, rfl, rfl, rfl, trivial⟩
 ·exact h
theorem tab2a_2 (PT : SV → List SB → List Nat → Prop) (cL cB cM bL bM gL gM b : List Int) (cm cap An Ac acap : Nat) (Oa Ob Oc : Nat → Int) (e : Int) (he : e ≠ 0)
  (hRd : Con Try.prog 70 [.slice 0 .z 1 b.length cap, .int .i64 9, .int .i64 52] [.ro .u8 b] (fun v H R => R = [] ∧ v = .tup [.val (.slice none 0 0), .int .i64 0, .int .i64 0, .int .i64 e] ∧ H = [.ro .u8 b]))
  (h : PT (.tup [.val (.slice none 0 0), .int .i64 0, .int .i64 (if e = 10 then 10 else 11)]) (kH cL cB cM bL bM gL gM b cm (.bufA 79 3 An (fun m => [.int .u8 (Oa m), .int .u8 (Ob m), .int .u16 (Oc m)]) Ac)) []) : Con Try.prog 34 [.ptr 0 (.n 2) 7 0, .int .u8 2, .slice 1 .z 1 b.length cap, .slice 2 .z 3 An acap] (kH cL cB cM bL bM gL gM b cm (.bufA 79 3 An (fun m => [.int .u8 (Oa m), .int .u8 (Ob m), .int .u16 (Oc m)]) Ac)) PT := by
 refine con_rows (con_gen (con_moves (con_drop (con_walk hmix fn34 ?_))))
 intro vb vc vw vtoN vofN vaddN vsubN vmaxI vminI vcutN vgd vst vln vrep vsub vonto vsplice vstrEq vbyteV vnotB veqB hw qb qc qw qtoN qofN qaddN qsubN qmaxI qminI qcutN qgd qst qln qrep qsub qonto qsplice qstrEq qbyteV qnotB qeqB
 have hm := hmix; generalize Try.prog = P at *
 have he0 : vc .eql e 0 = false := by rw [qc, eql_false]; exact he
 have he1 : vc .neq e 0 = true := by rw [qc, neq_true]; exact he
 generalize b.length = bl at *
 have h20 : vc .eql 2 0 = false := by rw [qc]; rfl
 have h21 : vc .eql 2 1 = false := by rw [qc]; rfl
 have h22 : vc .eql 2 2 = true := by rw [qc]; rfl
 cbv
 rw [h20]
 cbv
 rw [h21]
 cbv
 rw [h22]
 cbv
 refine call_con (ρ := [(1, .z)]) hRd ⟨by rfl, by rfl, by rfl, by cbv; refine ⟨fun _ => rfl, ?_⟩; exact ⟨view_refl _, trivial⟩⟩ ?_
 rintro v H R js ⟨rfl, rfl, rfl⟩
 cbv
 (repeat refine And.intro (fun _ => rfl) ?_)
 cbv
 rw [he0]
 cbv
 rw [he1]
 cbv
 by_cases h10 : e = 10
 ·have he2 : vc .neq e 10 = false := by rw [qc, neq_false]; omega
  rw [if_pos h10] at h
  subst h10
  rw [he2]
  cbv
  (repeat refine And.intro (fun _ => rfl) ?_)
  refine ⟨[], [0, 1, 2, 3, 4, 5, 6, 7, 8, 9, 10, 11, 12, 13, 14, 15], .tup [.val (.slice none 0 0), .int .i64 0, .int .i64 10], (kH cL cB cM bL bM gL gM b cm (.bufA 79 3 An (fun m => [.int .u8 (Oa m), .int .u8 (Ob m), .int .u16 (Oc m)]) Ac)), rfl, rfl, rfl, rfl, rfl, ?_, ?_⟩
  ·exact ⟨rfl, rfl, rfl, fun _ => rfl, rfl, rfl, rfl, rfl, rfl, rfl, rfl, rfl, rfl, rfl, rfl, rfl, rfl, trivial⟩
  ·exact h
 ·have he2 : vc .neq e 10 = true := by rw [qc, neq_true]; exact h10
  rw [if_neg h10] at h
  rw [he2]
  cbv
  (repeat refine And.intro (fun _ => rfl) ?_)
  refine ⟨[], [0, 1, 2, 3, 4, 5, 6, 7, 8, 9, 10, 11, 12, 13, 14, 15], .tup [.val (.slice none 0 0), .int .i64 0, .lit .i64 11], (kH cL cB cM bL bM gL gM b cm (.bufA 79 3 An (fun m => [.int .u8 (Oa m), .int .u8 (Ob m), .int .u16 (Oc m)]) Ac)), rfl, rfl, rfl, rfl, rfl, ?_, ?_⟩
  ·exact ⟨rfl, rfl, rfl, fun _ => rfl, rfl, rfl, rfl, rfl, rfl, rfl, rfl, rfl, rfl, rfl, rfl, rfl, rfl, trivial⟩
  ·exact h
theorem tab2b_2 (PT : SV → List SB → List Nat → Prop) (cL cB cM bL bM gL gM b : List Int) (cm cap An Ac acap : Nat) (Oa Ob Oc : Nat → Int) (cs : List Int) (log used : Int)
  (hRd : Con Try.prog 70 [.slice 0 .z 1 b.length cap, .int .i64 9, .int .i64 52] [.ro .u8 b] (fun v H R => R = [] ∧ ∃ c, v = .tup [.slice 1 .z 1 cs.length c, .int .i64 log, .int .i64 used, .int .i64 0] ∧ H = [.ro .u8 b, .buf 124 .i16 cs c]))
  (hT : ∀ c, Con Try.prog 66 [.slice 0 .z 1 cs.length c, .int .i64 log] [.ro .i16 cs] (fun v H R => R = [] ∧ v = .tup [.val (.slice none 0 0), .int .i64 70] ∧ H = [.ro .i16 cs]))
  (h : ∀ u, PT (.tup [.val (.slice none 0 0), .int .i64 u, .int .i64 11]) (kH cL cB cM bL bM gL gM b cm (.bufA 79 3 An (fun m => [.int .u8 (Oa m), .int .u8 (Ob m), .int .u16 (Oc m)]) Ac)) []) : Con Try.prog 34 [.ptr 0 (.n 2) 7 0, .int .u8 2, .slice 1 .z 1 b.length cap, .slice 2 .z 3 An acap] (kH cL cB cM bL bM gL gM b cm (.bufA 79 3 An (fun m => [.int .u8 (Oa m), .int .u8 (Ob m), .int .u16 (Oc m)]) Ac)) PT := by
 refine con_rows (con_gen (con_moves (con_drop (con_walk hmix fn34 ?_))))
 intro vb vc vw vtoN vofN vaddN vsubN vmaxI vminI vcutN vgd vst vln vrep vsub vonto vsplice vstrEq vbyteV vnotB veqB hw qb qc qw qtoN qofN qaddN qsubN qmaxI qminI qcutN qgd qst qln qrep qsub qonto qsplice qstrEq qbyteV qnotB qeqB
 have hm := hmix; generalize Try.prog = P at *
 have h00 : vc .eql 0 0 = true := by rw [qc]; rfl
 have h70 : vc .neq 70 0 = true := by rw [qc]; rfl
 have h71 : vc .neq 70 10 = true := by rw [qc]; rfl
 generalize b.length = bl at *
 generalize cs.length = cl at *
 have h20 : vc .eql 2 0 = false := by rw [qc]; rfl
 have h21 : vc .eql 2 1 = false := by rw [qc]; rfl
 have h22 : vc .eql 2 2 = true := by rw [qc]; rfl
 cbv
 rw [h20]
 cbv
 rw [h21]
 cbv
 rw [h22]
 cbv
 refine call_con (ρ := [(1, .z)]) hRd ⟨by rfl, by rfl, by rfl, by cbv; refine ⟨fun _ => rfl, ?_⟩; exact ⟨view_refl _, trivial⟩⟩ ?_
 rintro v H R js ⟨rfl, c, rfl, rfl⟩
 cbv
 (repeat refine And.intro (fun _ => rfl) ?_)
 cbv
 rw [h00]
 cbv
 refine call_con (ρ := [(16, .z)]) (hT c) ⟨by rfl, by rfl, by rfl, by cbv; refine ⟨fun _ => rfl, ?_⟩; exact ⟨view_refl _, trivial⟩⟩ ?_
 rintro v H R js ⟨rfl, rfl, rfl⟩
 cbv
 (repeat refine And.intro (fun _ => rfl) ?_)
 cbv
 rw [h70]
 cbv
 rw [h71]
 cbv
 (repeat refine And.intro (fun _ => rfl) ?_)
 refine ⟨[], [0, 1, 2, 3, 4, 5, 6, 7, 8, 9, 10, 11, 12, 13, 14, 15], .tup [.val (.slice none 0 0), .int .i64 used, .lit .i64 11], (kH cL cB cM bL bM gL gM b cm (.bufA 79 3 An (fun m => [.int .u8 (Oa m), .int .u8 (Ob m), .int .u16 (Oc m)]) Ac)), rfl, rfl, rfl, rfl, rfl, ?_, ?_⟩
 ·exact ⟨rfl, rfl, rfl, fun _ => rfl, rfl, rfl, rfl, rfl, rfl, rfl, rfl, rfl, rfl, rfl, rfl, rfl, rfl, trivial⟩
 ·exact h used
theorem tab2c_2 (PT : SV → List SB → List Nat → Prop) (cL cB cM bL bM gL gM b : List Int) (cm cap An Ac acap : Nat) (Oa Ob Oc : Nat → Int) (cs : List Int) (log used : Int) (N : Nat) (A B C : Nat → Int)
  (hRd : Con Try.prog 70 [.slice 0 .z 1 b.length cap, .int .i64 9, .int .i64 52] [.ro .u8 b] (fun v H R => R = [] ∧ ∃ c, v = .tup [.slice 1 .z 1 cs.length c, .int .i64 log, .int .i64 used, .int .i64 0] ∧ H = [.ro .u8 b, .buf 124 .i16 cs c]))
  (hT : ∀ c, Con Try.prog 66 [.slice 0 .z 1 cs.length c, .int .i64 log] [.ro .i16 cs] (fun v H R => R = [] ∧ v = .tup [.slice 1 .z 3 N N, .int .i64 0] ∧ H = [.ro .i16 cs, .arr 79 3 N (fun m => [.int .u8 (A m), .int .u8 (B m), .int .u16 (C m)])]))
  (h : PT (.tup [.slice 2 .z 3 N N, .int .i64 used, .int .i64 0]) (kH cL cB cM bL bM gL gM b cm (.bufA 79 3 N (fun m => [.int .u8 (A m), .int .u8 (B m), .int .u16 (C m)]) N)) [2]) : Con Try.prog 34 [.ptr 0 (.n 2) 7 0, .int .u8 2, .slice 1 .z 1 b.length cap, .slice 2 .z 3 An acap] (kH cL cB cM bL bM gL gM b cm (.bufA 79 3 An (fun m => [.int .u8 (Oa m), .int .u8 (Ob m), .int .u16 (Oc m)]) Ac)) PT := by
 refine con_rows (con_gen (con_moves (con_drop (con_walk hmix fn34 ?_))))
 intro vb vc vw vtoN vofN vaddN vsubN vmaxI vminI vcutN vgd vst vln vrep vsub vonto vsplice vstrEq vbyteV vnotB veqB hw qb qc qw qtoN qofN qaddN qsubN qmaxI qminI qcutN qgd qst qln qrep qsub qonto qsplice qstrEq qbyteV qnotB qeqB
 have hm := hmix; generalize Try.prog = P at *
 have h00 : vc .eql 0 0 = true := by rw [qc]; rfl
 have h01 : vc .neq 0 0 = false := by rw [qc]; rfl
 generalize b.length = bl at *
 generalize cs.length = cl at *
 have h20 : vc .eql 2 0 = false := by rw [qc]; rfl
 have h21 : vc .eql 2 1 = false := by rw [qc]; rfl
 have h22 : vc .eql 2 2 = true := by rw [qc]; rfl
 cbv
 rw [h20]
 cbv
 rw [h21]
 cbv
 rw [h22]
 cbv
 refine call_con (ρ := [(1, .z)]) hRd ⟨by rfl, by rfl, by rfl, by cbv; refine ⟨fun _ => rfl, ?_⟩; exact ⟨view_refl _, trivial⟩⟩ ?_
 rintro v H R js ⟨rfl, c, rfl, rfl⟩
 cbv
 (repeat refine And.intro (fun _ => rfl) ?_)
 cbv
 rw [h00]
 cbv
 refine call_con (ρ := [(16, .z)]) (hT c) ⟨by rfl, by rfl, by rfl, by cbv; refine ⟨fun _ => rfl, ?_⟩; exact ⟨view_refl _, trivial⟩⟩ ?_
 rintro v H R js ⟨rfl, rfl, rfl⟩
 cbv
 (repeat refine And.intro (fun _ => rfl) ?_)
 cbv
 rw [h01]
 cbv
 (repeat refine And.intro (fun _ => rfl) ?_)
 refine ⟨[2], [0, 1, 17, 3, 4, 5, 6, 7, 8, 9, 10, 11, 12, 13, 14, 15], .tup [.slice 2 .z 3 N N, .int .i64 used, .int .i64 0], (kH cL cB cM bL bM gL gM b cm (.arr 79 3 N (fun m => [.int .u8 (A m), .int .u8 (B m), .int .u16 (C m)]))), rfl, rfl, rfl, rfl, rfl, ?_, ?_⟩
 ·exact ⟨rfl, rfl, rfl, fun _ => rfl, rfl, rfl, rfl, rfl, rfl, rfl, rfl, rfl, rfl, rfl, rfl, rfl, rfl, trivial⟩
 ·exact h
theorem tab3a_2 (PT : SV → List SB → List Nat → Prop) (cL cB cM bL bM gL gM b : List Int) (cm cap An Ac acap : Nat) (Oa Ob Oc : Nat → Int) (hA : An = 0) (h : PT (.tup [.val (.slice none 0 0), .int .i64 0, .int .i64 11]) (kH cL cB cM bL bM gL gM b cm (.bufA 79 3 An (fun m => [.int .u8 (Oa m), .int .u8 (Ob m), .int .u16 (Oc m)]) Ac)) []) : Con Try.prog 34 [.ptr 0 (.n 2) 7 0, .int .u8 3, .slice 1 .z 1 b.length cap, .slice 2 .z 3 An acap] (kH cL cB cM bL bM gL gM b cm (.bufA 79 3 An (fun m => [.int .u8 (Oa m), .int .u8 (Ob m), .int .u16 (Oc m)]) Ac)) PT := by
 refine con_rows (con_gen (con_moves (con_drop (con_walk hmix fn34 ?_))))
 intro vb vc vw vtoN vofN vaddN vsubN vmaxI vminI vcutN vgd vst vln vrep vsub vonto vsplice vstrEq vbyteV vnotB veqB hw qb qc qw qtoN qofN qaddN qsubN qmaxI qminI qcutN qgd qst qln qrep qsub qonto qsplice qstrEq qbyteV qnotB qeqB
 have hm := hmix; generalize Try.prog = P at *
 have ho : vofN An = 0 := by simp only [qofN]; rw [hA]; rfl
 have h00 : vc .eql 0 0 = true := by rw [qc]; rfl
 have h30 : vc .eql 3 0 = false := by rw [qc]; rfl
 have h31 : vc .eql 3 1 = false := by rw [qc]; rfl
 have h32 : vc .eql 3 2 = false := by rw [qc]; rfl
 generalize b.length = bl at *
 cbv
 rw [h30]
 cbv
 rw [h31]
 cbv
 rw [h32]
 cbv
 rw [ho, h00]
 cbv
 (repeat refine And.intro (fun _ => rfl) ?_)
 refine ⟨[], [0, 1, 2, 3, 4, 5, 6, 7, 8, 9, 10, 11, 12, 13, 14, 15], .tup [.val (.slice none 0 0), .lit .i64 0, .lit .i64 11], (kH cL cB cM bL bM gL gM b cm (.bufA 79 3 An (fun m => [.int .u8 (Oa m), .int .u8 (Ob m), .int .u16 (Oc m)]) Ac)), rfl, rfl, rfl, rfl, rfl, ?_, ?_⟩
 ·exact ⟨rfl, rfl, rfl, fun _ => rfl, rfl, rfl, rfl, rfl, rfl, rfl, rfl, rfl, rfl, rfl, rfl, rfl, rfl, trivial⟩
 ·exact h
theorem tab3b_2 (PT : SV → List SB → List Nat → Prop) (cL cB cM bL bM gL gM b : List Int) (cm cap An Ac acap : Nat) (Oa Ob Oc : Nat → Int) (hA : ¬ An = 0) (h : PT (.tup [.slice 2 .z 3 An acap, .int .i64 0, .int .i64 0]) (kH cL cB cM bL bM gL gM b cm (.bufA 79 3 An (fun m => [.int .u8 (Oa m), .int .u8 (Ob m), .int .u16 (Oc m)]) Ac)) [2]) : Con Try.prog 34 [.ptr 0 (.n 2) 7 0, .int .u8 3, .slice 1 .z 1 b.length cap, .slice 2 .z 3 An acap] (kH cL cB cM bL bM gL gM b cm (.bufA 79 3 An (fun m => [.int .u8 (Oa m), .int .u8 (Ob m), .int .u16 (Oc m)]) Ac)) PT := by
 refine con_rows (con_gen (con_moves (con_drop (con_walk hmix fn34 ?_))))
 intro vb vc vw vtoN vofN vaddN vsubN vmaxI vminI vcutN vgd vst vln vrep vsub vonto vsplice vstrEq vbyteV vnotB veqB hw qb qc qw qtoN qofN qaddN qsubN qmaxI qminI qcutN qgd qst qln qrep qsub qonto qsplice qstrEq qbyteV qnotB qeqB
 have hm := hmix; generalize Try.prog = P at *
 obtain ⟨ni, hni⟩ : ∃ ni : Int, ni = An := ⟨_, rfl⟩
 have ho : vofN An = ni := by simp only [qofN]; exact hni.symm
 have h00 : vc .eql ni 0 = false := by rw [qc, eql_false]; omega
 have h30 : vc .eql 3 0 = false := by rw [qc]; rfl
 have h31 : vc .eql 3 1 = false := by rw [qc]; rfl
 have h32 : vc .eql 3 2 = false := by rw [qc]; rfl
 generalize b.length = bl at *
 cbv
 rw [h30]
 cbv
 rw [h31]
 cbv
 rw [h32]
 cbv
 rw [ho, h00]
 cbv
 (repeat refine And.intro (fun _ => rfl) ?_)
 refine ⟨[2], [0, 1, 2, 3, 4, 5, 6, 7, 8, 9, 10, 11, 12, 13, 14, 15], .tup [.slice 2 .z 3 An acap, .lit .i64 0, .lit .i64 0], (kH cL cB cM bL bM gL gM b cm (.bufA 79 3 An (fun m => [.int .u8 (Oa m), .int .u8 (Ob m), .int .u16 (Oc m)]) Ac)), rfl, rfl, rfl, rfl, rfl, ?_, ?_⟩
 ·exact ⟨rfl, rfl, rfl, fun _ => rfl, rfl, rfl, rfl, rfl, rfl, rfl, rfl, rfl, rfl, rfl, rfl, rfl, rfl, trivial⟩
 ·exact h
end Go.Proofs.Ytlclleihoampdaa
namespace Go.Proofs.Ytlclleihoampdaa
open Go Go.Sx Go.Proofs
set_option maxRecDepth 10000
theorem all16 {l : List Int} (h : l.all (fun c => decide (-32768 ≤ c ∧ c ≤ 32767)) = true) : ∀ c ∈ l, isI16 c := fun c hc => by
 have := List.all_eq_true.1 h c hc
 simpa [isI16] using this
theorem cntL_16 : ∀ c ∈ cntL, isI16 c := all16 (by decide)
theorem cntB_16 : ∀ c ∈ cntB, isI16 c := all16 (by decide)
theorem cntM_16 : ∀ c ∈ cntM, isI16 c := all16 (by decide)
theorem cntL_right : Right cntL 6 := by decide
theorem cntB_right : Right cntB 5 := by decide
theorem cntM_right : Right cntM 6 := by decide
theorem table_0 (cL cB cM bL bM gL gM b : List Int) (cm cap An Ac acap : Nat) (Oa Ob Oc : Nat → Int) (way e used : Int) (n : Nat) (A B C : Nat → Int) (hway : 0 ≤ way ∧ way ≤ 3) (hby : ∀ x ∈ b, isByte x) (hl : b.length ≤ 140737488355328) (hc : cL = cntL)
  (hr : tabK 9 35 6 cntL way b ⟨An, Oa, Ob, Oc⟩ = (e, used, ⟨n, A, B, C⟩)) :
  Con Try.prog 34 [.ptr 0 (.n 0) 7 0, .int .u8 way, .slice 1 .z 1 b.length cap, .slice 2 .z 3 An acap] (kH cL cB cM bL bM gL gM b cm (.bufA 79 3 An (fun m => [.int .u8 (Oa m), .int .u8 (Ob m), .int .u16 (Oc m)]) Ac))
   (fun v H R => (e ≠ 0 ∧ R = [] ∧ H = (kH cL cB cM bL bM gL gM b cm (.bufA 79 3 An (fun m => [.int .u8 (Oa m), .int .u8 (Ob m), .int .u16 (Oc m)]) Ac)) ∧ ∃ u, v = .tup [.val (.slice none 0 0), .int .i64 u, .int .i64 e]) ∨
    (e = 0 ∧ R = [2] ∧ ∃ cp c', v = .tup [.slice 2 .z 3 n cp, .int .i64 used, .int .i64 0] ∧ H = kH cL cB cM bL bM gL gM b cm (.bufA 79 3 n (fun m => [.int .u8 (A m), .int .u8 (B m), .int .u16 (C m)]) c'))) := by
 unfold tabK at hr
 rcases (by omega : way = 0 ∨ way = 1 ∨ way = 2 ∨ way = 3) with rfl | rfl | rfl | rfl
 ·rw [if_pos rfl] at hr
  simp only [mkT, Prod.mk.injEq, Tb.mk.injEq] at hr
  obtain ⟨rfl, rfl, rfl, rfl, rfl, rfl⟩ := hr
  have hT := table_ok cntL 6 36 cntL_16 (by decide) cntL_right
  refine tab0_0 _ cL cB cM bL bM gL gM b cm cap An Ac acap Oa Ob Oc _ _ _ _ (by rw [hc]; rfl) (by rw [hc]; exact hT) ?_
  exact .inr ⟨rfl, rfl, _, _, rfl, rfl⟩
 ·rw [if_neg (by decide), if_pos rfl] at hr
  by_cases hb : b.length = 0
  ·rw [if_pos hb] at hr
   simp only [Prod.mk.injEq] at hr
   obtain ⟨rfl, rfl, _⟩ := hr
   exact tab1a_0 _ cL cB cM bL bM gL gM b cm cap An Ac acap Oa Ob Oc hb (.inl ⟨by decide, rfl, rfl, _, rfl⟩)
  ·rw [if_neg hb] at hr
   have hx : isByte (b.getD 0 0) := by
    rw [List.getD_eq_getElem?_getD, List.getElem?_eq_getElem (by omega)]
    exact hby _ (List.getElem_mem _)
   by_cases hm : 35 < b.getD 0 0
   ·rw [if_pos hm] at hr
    simp only [Prod.mk.injEq] at hr
    obtain ⟨rfl, rfl, _⟩ := hr
    exact tab1b_0 _ cL cB cM bL bM gL gM b cm cap An Ac acap Oa Ob Oc _ rfl (by omega) hx hm (.inl ⟨by decide, rfl, rfl, _, rfl⟩)
   ·rw [if_neg hm] at hr
    simp only [oneT, Prod.mk.injEq, Tb.mk.injEq] at hr
    obtain ⟨rfl, rfl, rfl, rfl, rfl, rfl⟩ := hr
    exact tab1c_0 _ cL cB cM bL bM gL gM b cm cap An Ac acap Oa Ob Oc _ rfl (by omega) hx hm (.inr ⟨rfl, rfl, _, _, rfl, rfl⟩)
 ·rw [if_neg (by decide), if_neg (by decide), if_pos rfl] at hr
  obtain ⟨⟨cs, log, us, er⟩, hRR⟩ : ∃ r, readR b 9 35 = r := ⟨_, rfl⟩
  rw [hRR] at hr
  simp only at hr
  by_cases he : er = 0
  ·subst he
   rw [if_neg (by decide)] at hr
   obtain ⟨hcs, _, _, hlg0, hlg1⟩ := readR_ok hRR
   have hRd := read_ok b cap 9 35 hby hl (by decide) (by decide) cs log us hRR
   by_cases hR : Right cs log
   ·rw [if_neg (by simp [hR])] at hr
    simp only [mkT, Prod.mk.injEq, Tb.mk.injEq] at hr
    obtain ⟨rfl, rfl, rfl, rfl, rfl, rfl⟩ := hr
    exact tab2c_0 _ cL cB cM bL bM gL gM b cm cap An Ac acap Oa Ob Oc cs log us _ _ _ _ hRd (fun c => table_ok cs log c hcs (by omega) hR) (.inr ⟨rfl, rfl, _, _, rfl, rfl⟩)
   ·rw [if_pos (by simp [hR])] at hr
    simp only [Prod.mk.injEq] at hr
    obtain ⟨rfl, rfl, _⟩ := hr
    exact tab2b_0 _ cL cB cM bL bM gL gM b cm cap An Ac acap Oa Ob Oc cs log us hRd (fun c => table_bad cs log c hcs (by omega) hR) (fun u => .inl ⟨by decide, rfl, rfl, _, rfl⟩)
  ·have hRd := read_err b cap 9 35 hby hl (by decide) (by decide) cs log us er hRR he
   have e1 : e = if er = 10 then 10 else 11 := by
    split at hr
    ·rename_i h10
     simp only [Prod.mk.injEq] at hr
     rw [if_pos h10, hr.1]
    ·rename_i h10
     rw [if_pos (.inl he)] at hr
     simp only [Prod.mk.injEq] at hr
     rw [if_neg h10, hr.1]
   refine tab2a_0 _ cL cB cM bL bM gL gM b cm cap An Ac acap Oa Ob Oc er he hRd (.inl ⟨?_, rfl, rfl, _, by rw [e1]⟩)
   rw [e1]
   split <;> decide
 ·rw [if_neg (by decide), if_neg (by decide), if_neg (by decide)] at hr
  by_cases hA : An = 0
  ·rw [if_pos hA] at hr
   simp only [Prod.mk.injEq] at hr
   obtain ⟨rfl, rfl, _⟩ := hr
   exact tab3a_0 _ cL cB cM bL bM gL gM b cm cap An Ac acap Oa Ob Oc hA (.inl ⟨by decide, rfl, rfl, _, rfl⟩)
  ·rw [if_neg hA] at hr
   simp only [Prod.mk.injEq, Tb.mk.injEq] at hr
   obtain ⟨rfl, rfl, rfl, rfl, rfl, rfl⟩ := hr
   exact tab3b_0 _ cL cB cM bL bM gL gM b cm cap An Ac acap Oa Ob Oc hA (.inr ⟨rfl, rfl, _, _, rfl, rfl⟩)
theorem table_1 (cL cB cM bL bM gL gM b : List Int) (cm cap An Ac acap : Nat) (Oa Ob Oc : Nat → Int) (way e used : Int) (n : Nat) (A B C : Nat → Int) (hway : 0 ≤ way ∧ way ≤ 3) (hby : ∀ x ∈ b, isByte x) (hl : b.length ≤ 140737488355328) (hc : cB = cntB)
  (hr : tabK 8 31 5 cntB way b ⟨An, Oa, Ob, Oc⟩ = (e, used, ⟨n, A, B, C⟩)) :
  Con Try.prog 34 [.ptr 0 (.n 1) 7 0, .int .u8 way, .slice 1 .z 1 b.length cap, .slice 2 .z 3 An acap] (kH cL cB cM bL bM gL gM b cm (.bufA 79 3 An (fun m => [.int .u8 (Oa m), .int .u8 (Ob m), .int .u16 (Oc m)]) Ac))
   (fun v H R => (e ≠ 0 ∧ R = [] ∧ H = (kH cL cB cM bL bM gL gM b cm (.bufA 79 3 An (fun m => [.int .u8 (Oa m), .int .u8 (Ob m), .int .u16 (Oc m)]) Ac)) ∧ ∃ u, v = .tup [.val (.slice none 0 0), .int .i64 u, .int .i64 e]) ∨
    (e = 0 ∧ R = [2] ∧ ∃ cp c', v = .tup [.slice 2 .z 3 n cp, .int .i64 used, .int .i64 0] ∧ H = kH cL cB cM bL bM gL gM b cm (.bufA 79 3 n (fun m => [.int .u8 (A m), .int .u8 (B m), .int .u16 (C m)]) c'))) := by
 unfold tabK at hr
 rcases (by omega : way = 0 ∨ way = 1 ∨ way = 2 ∨ way = 3) with rfl | rfl | rfl | rfl
 ·rw [if_pos rfl] at hr
  simp only [mkT, Prod.mk.injEq, Tb.mk.injEq] at hr
  obtain ⟨rfl, rfl, rfl, rfl, rfl, rfl⟩ := hr
  have hT := table_ok cntB 5 29 cntB_16 (by decide) cntB_right
  refine tab0_1 _ cL cB cM bL bM gL gM b cm cap An Ac acap Oa Ob Oc _ _ _ _ (by rw [hc]; rfl) (by rw [hc]; exact hT) ?_
  exact .inr ⟨rfl, rfl, _, _, rfl, rfl⟩
 ·rw [if_neg (by decide), if_pos rfl] at hr
  by_cases hb : b.length = 0
  ·rw [if_pos hb] at hr
   simp only [Prod.mk.injEq] at hr
   obtain ⟨rfl, rfl, _⟩ := hr
   exact tab1a_1 _ cL cB cM bL bM gL gM b cm cap An Ac acap Oa Ob Oc hb (.inl ⟨by decide, rfl, rfl, _, rfl⟩)
  ·rw [if_neg hb] at hr
   have hx : isByte (b.getD 0 0) := by
    rw [List.getD_eq_getElem?_getD, List.getElem?_eq_getElem (by omega)]
    exact hby _ (List.getElem_mem _)
   by_cases hm : 31 < b.getD 0 0
   ·rw [if_pos hm] at hr
    simp only [Prod.mk.injEq] at hr
    obtain ⟨rfl, rfl, _⟩ := hr
    exact tab1b_1 _ cL cB cM bL bM gL gM b cm cap An Ac acap Oa Ob Oc _ rfl (by omega) hx hm (.inl ⟨by decide, rfl, rfl, _, rfl⟩)
   ·rw [if_neg hm] at hr
    simp only [oneT, Prod.mk.injEq, Tb.mk.injEq] at hr
    obtain ⟨rfl, rfl, rfl, rfl, rfl, rfl⟩ := hr
    exact tab1c_1 _ cL cB cM bL bM gL gM b cm cap An Ac acap Oa Ob Oc _ rfl (by omega) hx hm (.inr ⟨rfl, rfl, _, _, rfl, rfl⟩)
 ·rw [if_neg (by decide), if_neg (by decide), if_pos rfl] at hr
  obtain ⟨⟨cs, log, us, er⟩, hRR⟩ : ∃ r, readR b 8 31 = r := ⟨_, rfl⟩
  rw [hRR] at hr
  simp only at hr
  by_cases he : er = 0
  ·subst he
   rw [if_neg (by decide)] at hr
   obtain ⟨hcs, _, _, hlg0, hlg1⟩ := readR_ok hRR
   have hRd := read_ok b cap 8 31 hby hl (by decide) (by decide) cs log us hRR
   by_cases hR : Right cs log
   ·rw [if_neg (by simp [hR])] at hr
    simp only [mkT, Prod.mk.injEq, Tb.mk.injEq] at hr
    obtain ⟨rfl, rfl, rfl, rfl, rfl, rfl⟩ := hr
    exact tab2c_1 _ cL cB cM bL bM gL gM b cm cap An Ac acap Oa Ob Oc cs log us _ _ _ _ hRd (fun c => table_ok cs log c hcs (by omega) hR) (.inr ⟨rfl, rfl, _, _, rfl, rfl⟩)
   ·rw [if_pos (by simp [hR])] at hr
    simp only [Prod.mk.injEq] at hr
    obtain ⟨rfl, rfl, _⟩ := hr
    exact tab2b_1 _ cL cB cM bL bM gL gM b cm cap An Ac acap Oa Ob Oc cs log us hRd (fun c => table_bad cs log c hcs (by omega) hR) (fun u => .inl ⟨by decide, rfl, rfl, _, rfl⟩)
  ·have hRd := read_err b cap 8 31 hby hl (by decide) (by decide) cs log us er hRR he
   have e1 : e = if er = 10 then 10 else 11 := by
    split at hr
    ·rename_i h10
     simp only [Prod.mk.injEq] at hr
     rw [if_pos h10, hr.1]
    ·rename_i h10
     rw [if_pos (.inl he)] at hr
     simp only [Prod.mk.injEq] at hr
     rw [if_neg h10, hr.1]
   refine tab2a_1 _ cL cB cM bL bM gL gM b cm cap An Ac acap Oa Ob Oc er he hRd (.inl ⟨?_, rfl, rfl, _, by rw [e1]⟩)
   rw [e1]
   split <;> decide
 ·rw [if_neg (by decide), if_neg (by decide), if_neg (by decide)] at hr
  by_cases hA : An = 0
  ·rw [if_pos hA] at hr
   simp only [Prod.mk.injEq] at hr
   obtain ⟨rfl, rfl, _⟩ := hr
   exact tab3a_1 _ cL cB cM bL bM gL gM b cm cap An Ac acap Oa Ob Oc hA (.inl ⟨by decide, rfl, rfl, _, rfl⟩)
  ·rw [if_neg hA] at hr
   simp only [Prod.mk.injEq, Tb.mk.injEq] at hr
   obtain ⟨rfl, rfl, rfl, rfl, rfl, rfl⟩ := hr
   exact tab3b_1 _ cL cB cM bL bM gL gM b cm cap An Ac acap Oa Ob Oc hA (.inr ⟨rfl, rfl, _, _, rfl, rfl⟩)
theorem table_2 (cL cB cM bL bM gL gM b : List Int) (cm cap An Ac acap : Nat) (Oa Ob Oc : Nat → Int) (way e used : Int) (n : Nat) (A B C : Nat → Int) (hway : 0 ≤ way ∧ way ≤ 3) (hby : ∀ x ∈ b, isByte x) (hl : b.length ≤ 140737488355328) (hc : cM = cntM)
  (hr : tabK 9 52 6 cntM way b ⟨An, Oa, Ob, Oc⟩ = (e, used, ⟨n, A, B, C⟩)) :
  Con Try.prog 34 [.ptr 0 (.n 2) 7 0, .int .u8 way, .slice 1 .z 1 b.length cap, .slice 2 .z 3 An acap] (kH cL cB cM bL bM gL gM b cm (.bufA 79 3 An (fun m => [.int .u8 (Oa m), .int .u8 (Ob m), .int .u16 (Oc m)]) Ac))
   (fun v H R => (e ≠ 0 ∧ R = [] ∧ H = (kH cL cB cM bL bM gL gM b cm (.bufA 79 3 An (fun m => [.int .u8 (Oa m), .int .u8 (Ob m), .int .u16 (Oc m)]) Ac)) ∧ ∃ u, v = .tup [.val (.slice none 0 0), .int .i64 u, .int .i64 e]) ∨
    (e = 0 ∧ R = [2] ∧ ∃ cp c', v = .tup [.slice 2 .z 3 n cp, .int .i64 used, .int .i64 0] ∧ H = kH cL cB cM bL bM gL gM b cm (.bufA 79 3 n (fun m => [.int .u8 (A m), .int .u8 (B m), .int .u16 (C m)]) c'))) := by
 unfold tabK at hr
 rcases (by omega : way = 0 ∨ way = 1 ∨ way = 2 ∨ way = 3) with rfl | rfl | rfl | rfl
 ·rw [if_pos rfl] at hr
  simp only [mkT, Prod.mk.injEq, Tb.mk.injEq] at hr
  obtain ⟨rfl, rfl, rfl, rfl, rfl, rfl⟩ := hr
  have hT := table_ok cntM 6 cm cntM_16 (by decide) cntM_right
  refine tab0_2 _ cL cB cM bL bM gL gM b cm cap An Ac acap Oa Ob Oc _ _ _ _ (by rw [hc]; rfl) (by rw [hc]; exact hT) ?_
  exact .inr ⟨rfl, rfl, _, _, rfl, rfl⟩
 ·rw [if_neg (by decide), if_pos rfl] at hr
  by_cases hb : b.length = 0
  ·rw [if_pos hb] at hr
   simp only [Prod.mk.injEq] at hr
   obtain ⟨rfl, rfl, _⟩ := hr
   exact tab1a_2 _ cL cB cM bL bM gL gM b cm cap An Ac acap Oa Ob Oc hb (.inl ⟨by decide, rfl, rfl, _, rfl⟩)
  ·rw [if_neg hb] at hr
   have hx : isByte (b.getD 0 0) := by
    rw [List.getD_eq_getElem?_getD, List.getElem?_eq_getElem (by omega)]
    exact hby _ (List.getElem_mem _)
   by_cases hm : 52 < b.getD 0 0
   ·rw [if_pos hm] at hr
    simp only [Prod.mk.injEq] at hr
    obtain ⟨rfl, rfl, _⟩ := hr
    exact tab1b_2 _ cL cB cM bL bM gL gM b cm cap An Ac acap Oa Ob Oc _ rfl (by omega) hx hm (.inl ⟨by decide, rfl, rfl, _, rfl⟩)
   ·rw [if_neg hm] at hr
    simp only [oneT, Prod.mk.injEq, Tb.mk.injEq] at hr
    obtain ⟨rfl, rfl, rfl, rfl, rfl, rfl⟩ := hr
    exact tab1c_2 _ cL cB cM bL bM gL gM b cm cap An Ac acap Oa Ob Oc _ rfl (by omega) hx hm (.inr ⟨rfl, rfl, _, _, rfl, rfl⟩)
 ·rw [if_neg (by decide), if_neg (by decide), if_pos rfl] at hr
  obtain ⟨⟨cs, log, us, er⟩, hRR⟩ : ∃ r, readR b 9 52 = r := ⟨_, rfl⟩
  rw [hRR] at hr
  simp only at hr
  by_cases he : er = 0
  ·subst he
   rw [if_neg (by decide)] at hr
   obtain ⟨hcs, _, _, hlg0, hlg1⟩ := readR_ok hRR
   have hRd := read_ok b cap 9 52 hby hl (by decide) (by decide) cs log us hRR
   by_cases hR : Right cs log
   ·rw [if_neg (by simp [hR])] at hr
    simp only [mkT, Prod.mk.injEq, Tb.mk.injEq] at hr
    obtain ⟨rfl, rfl, rfl, rfl, rfl, rfl⟩ := hr
    exact tab2c_2 _ cL cB cM bL bM gL gM b cm cap An Ac acap Oa Ob Oc cs log us _ _ _ _ hRd (fun c => table_ok cs log c hcs (by omega) hR) (.inr ⟨rfl, rfl, _, _, rfl, rfl⟩)
   ·rw [if_pos (by simp [hR])] at hr
    simp only [Prod.mk.injEq] at hr
    obtain ⟨rfl, rfl, _⟩ := hr
    exact tab2b_2 _ cL cB cM bL bM gL gM b cm cap An Ac acap Oa Ob Oc cs log us hRd (fun c => table_bad cs log c hcs (by omega) hR) (fun u => .inl ⟨by decide, rfl, rfl, _, rfl⟩)
  ·have hRd := read_err b cap 9 52 hby hl (by decide) (by decide) cs log us er hRR he
   have e1 : e = if er = 10 then 10 else 11 := by
    split at hr
    ·rename_i h10
     simp only [Prod.mk.injEq] at hr
     rw [if_pos h10, hr.1]
    ·rename_i h10
     rw [if_pos (.inl he)] at hr
     simp only [Prod.mk.injEq] at hr
     rw [if_neg h10, hr.1]
   refine tab2a_2 _ cL cB cM bL bM gL gM b cm cap An Ac acap Oa Ob Oc er he hRd (.inl ⟨?_, rfl, rfl, _, by rw [e1]⟩)
   rw [e1]
   split <;> decide
 ·rw [if_neg (by decide), if_neg (by decide), if_neg (by decide)] at hr
  by_cases hA : An = 0
  ·rw [if_pos hA] at hr
   simp only [Prod.mk.injEq] at hr
   obtain ⟨rfl, rfl, _⟩ := hr
   exact tab3a_2 _ cL cB cM bL bM gL gM b cm cap An Ac acap Oa Ob Oc hA (.inl ⟨by decide, rfl, rfl, _, rfl⟩)
  ·rw [if_neg hA] at hr
   simp only [Prod.mk.injEq, Tb.mk.injEq] at hr
   obtain ⟨rfl, rfl, rfl, rfl, rfl, rfl⟩ := hr
   exact tab3b_2 _ cL cB cM bL bM gL gM b cm cap An Ac acap Oa Ob Oc hA (.inr ⟨rfl, rfl, _, _, rfl, rfl⟩)
end Go.Proofs.Ytlclleihoampdaa
