import Derived.Test.YtkkddgdcmdnnmaaA4
import Derived.Test.YtkkddgdcmdnnmaaA2
import Derived.Test.YtkkddgdcmdnnmaaA1
set_option linter.unusedVariables false
set_option linter.unusedSimpArgs false
namespace Go.Proofs.Ytkkddgdcmdnnmaa
open Go Go.Sx Go.Proofs
/-! balerref05.ReadWord and Read. -/
theorem refrbit_con (b : List Int) (cap pos : Nat) (hby : ∀ x ∈ b, isByte x) (hl : b.length ≤ 2 ^ 50) (hp : pos ≤ 8 * b.length) :
    Con Try.prog 47 [.ptr 0 .z 2 0, .int .i64 1] [.one 41 [.slice 1 .z 1 b.length cap, .int .i64 pos], .ro .u8 b]
      (fun v H R => ∃ x e, ∃ pos2 : Nat, v = .tup [.int .u64 x, .int .i64 e] ∧ ((e = 0 ∧ pos + 1 ≤ 8 * b.length ∧ x = bt b pos ∧ pos2 = pos + 1) ∨ (e = 10 ∧ 8 * b.length ≤ pos ∧ pos2 = pos)) ∧ R = [] ∧ H = [.one 41 [.slice 1 .z 1 b.length cap, .int .i64 pos2], .ro .u8 b]) := by
  refine (refbitsB_con b cap pos 1 hby hl hp).mono ?_
  rintro v H R ⟨rfl, rfl, rfl⟩
  refine ⟨_, _, _, rfl, ?_, rfl, rfl⟩
  by_cases hp : pos + 1 ≤ 8 * b.length
  · refine .inl ⟨?_, hp, ?_, ?_⟩
    · unfold rbE; rw [if_pos (by omega), if_pos (by omega)]
    · unfold rbX; rw [if_pos ⟨by omega, by omega, by omega⟩]; simp [bval, bt]
    · unfold rbP; rw [if_pos ⟨by omega, by omega, by omega⟩]; rfl
  · refine .inr ⟨?_, by omega, ?_⟩
    · unfold rbE; rw [if_pos (by omega), if_neg (by omega)]
    · unfold rbP; rw [if_neg (by omega)]
set_option maxRecDepth 10000
set_option maxHeartbeats 40000000
theorem refword_con (l b : List Int) (p cap cap2 cap3 : Nat) (hR : Rt l) (hby : ∀ x ∈ b, isByte x) (hl : b.length ≤ 2 ^ 50) (hp : p ≤ 8 * b.length) :
    Con Try.prog 51 [.ptr 0 .z 2 0, .slice 2 .z 1 l.length cap2, .slice 3 .z 1 l.length cap3] [.one 41 [.slice 1 .z 1 b.length cap, .int .i64 p], .ro .u8 b, .ro .u8 l, .ro .u16 (WL l)]
      (fun v H R => ∃ s e, ∃ q : Nat, v = .tup [.int .i64 s, .int .i64 e] ∧ Dec l b p s e q ∧ R = [] ∧
        H = [.one 41 [.slice 1 .z 1 b.length cap, .int .i64 q], .ro .u8 b, .ro .u8 l, .ro .u16 (WL l)]) := by
  have hrd : ∀ (pI : Int) (pos : Nat), pI = pos → pos ≤ 8 * b.length → Con Try.prog 47 [.ptr 0 .z 2 0, .int .i64 1] [.one 41 [.slice 1 .z 1 b.length cap, .int .i64 pI], .ro .u8 b]
      (fun v H R => ∃ x e pI2 : Int, ∃ pos2 : Nat, v = .tup [.int .u64 x, .int .i64 e] ∧ pI2 = pos2 ∧ ((e = 0 ∧ pos + 1 ≤ 8 * b.length ∧ x = bt b pos ∧ pos2 = pos + 1) ∨ (e = 10 ∧ 8 * b.length ≤ pos ∧ pos2 = pos)) ∧ R = [] ∧ H = [.one 41 [.slice 1 .z 1 b.length cap, .int .i64 pI2], .ro .u8 b]) := by
    rintro pI pos rfl h
    refine (refrbit_con b cap pos hby hl h).mono ?_
    rintro v H R ⟨x, e, pos2, rfl, h2, rfl, rfl⟩
    exact ⟨x, e, _, pos2, rfl, rfl, h2, rfl, rfl⟩
  have hWg : ∀ u L : Nat, u < l.length → 1 ≤ L → l.getD u 0 = L → (WL l).getD u 0 = st l L + cn l L u := fun u L h h1 h2 => by
    rw [WL_getD l h, if_pos (by omega)]
    unfold wd
    rw [h2]; simp
  have hlt : ∀ u L : Nat, u < l.length → l.getD u 0 = L → cn l L u + 1 ≤ cn l L l.length := fun u L h h2 => by
    have := cn_lt l h; rw [h2] at this; exact this
  have hfind : ∀ (L : Nat) (q : Int), 0 ≤ q → q < cn l L l.length → ∃ i, i < l.length ∧ l.getD i 0 = L ∧ cn l L i = q := fun L q h1 h2 => cn_find l L q h1 h2
  have hWlen := WL_len l
  obtain ⟨pI, hpI⟩ : ∃ pI : Int, pI = p := ⟨_, rfl⟩
  have hq : ∀ (s e qI : Int) (q : Nat) (W : List Int), qI = q → Dec l b p s e q → ∃ s' e', ∃ q' : Nat, SV.tup [.int .i64 s, .int .i64 e] = .tup [.int .i64 s', .int .i64 e'] ∧ Dec l b p s' e' q' ∧
      [SB.one 41 [.slice 1 .z 1 b.length cap, .int .i64 qI], .ro .u8 b, .ro .u8 l, .ro .u16 W] = [.one 41 [.slice 1 .z 1 b.length cap, .int .i64 q'], .ro .u8 b, .ro .u8 l, .ro .u16 W] := by
    rintro s e qI q W rfl h
    exact ⟨s, e, q, rfl, h, rfl⟩
  suffices h : Con Try.prog 51 [.ptr 0 .z 2 0, .slice 2 .z 1 l.length cap2, .slice 3 .z 1 l.length cap3] [.one 41 [.slice 1 .z 1 b.length cap, .int .i64 pI], .ro .u8 b, .ro .u8 l, .ro .u16 (WL l)]
      (fun v H R => ∃ s e qI : Int, ∃ q : Nat, v = .tup [.int .i64 s, .int .i64 e] ∧ qI = q ∧ Dec l b p s e q ∧ R = [] ∧
        H = [.one 41 [.slice 1 .z 1 b.length cap, .int .i64 qI], .ro .u8 b, .ro .u8 l, .ro .u16 (WL l)]) by
    subst hpI
    refine h.mono ?_
    rintro v H R ⟨s, e, qI, q, rfl, rfl, h, rfl, rfl⟩
    exact ⟨s, e, _, rfl, h, rfl, rfl⟩
  clear hq
  refine con_gen (con_cut 4 (by simp) (con_drop (con_walk hmix fn51 ?_)))
  intro vb vc vw vtoN vofN vaddN vsubN vmaxI vminI vcutN vgd vst vln vrep vsub vonto vsplice vstrEq vbyteV vnotB veqB hw qb qc qw qtoN qofN qaddN qsubN qmaxI qminI qcutN qgd qst qln qrep qsub qonto qsplice qstrEq qbyteV qnotB qeqB
  have hm := hmix; generalize Try.prog = P at *
  have hn1 := hR.n1
  have hu8 := hR.u8
  have hl15 := hR.l15
  have hbt := bt_range b
  have hxr := xv_range b p
  have hxs : ∀ L, xv b p (L + 1) = 2 * xv b p L + bt b (p + L) := fun _ => rfl
  have hx0 : xv b p 0 = 0 := rfl
  have hxt := kp_top (b := b) hR p
  have hk0 : kp l l.length 0 = 0 := rfl
  have hks : ∀ L : Nat, 1 ≤ L → kp l l.length L = st l L + cn l L l.length := fun L h => by
    obtain ⟨k, rfl⟩ : ∃ k, L = k + 1 := ⟨L - 1, by omega⟩
    simp [kp, st]
  have hkp := kp_nonneg l l.length
  have hcr := cn_range l
  have hktop := hR.top
  have hD1 : ∀ L i : Nat, 1 ≤ L → L ≤ 15 → p + L ≤ 8 * b.length → (∀ j, j < L → kp l l.length j ≤ xv b p j) → xv b p L < kp l l.length L → i < l.length → l.getD i 0 = L → cn l L i = xv b p L - st l L → Dec l b p i 0 (p + L) :=
    fun L i h1 h2 h3 h4 h5 h6 h7 h8 => .inl ⟨L, i, h1, h2, h3, h4, h5, h6, h7, h8, rfl, rfl, rfl⟩
  have hD2 : ∀ L : Nat, L ≤ 14 → p + L = 8 * b.length → (∀ j, j ≤ L → kp l l.length j ≤ xv b p j) → Dec l b p 0 10 (p + L) := fun L h1 h2 h3 => .inr ⟨L, h1, h2, h3, rfl, rfl, rfl⟩
  have hst : ∀ L, st l L = 2 * kp l l.length (L - 1) := fun _ => rfl
  generalize Dec l b p = DEC at *
  generalize st l = ST at *
  generalize xv b p = XV at *
  generalize bt b = BT at *
  generalize kp l l.length = KP at *
  generalize cn l = CN at *
  generalize WL l = W at *
  generalize hT : 8 * b.length = T at *
  generalize b.length = lb at *
  generalize hn : l.length = n at *
  have hto : ∀ i : Nat, vtoN (i : Int) = i := fun i => by simp only [qtoN, Int.toNat_natCast]
  have hadd0 : ∀ i, vaddN 0 i = i := fun i => by simp only [qaddN, Nat.zero_add]
  have hvl : vln l = n := by simp only [qln]; exact hn
  have hvW : vln W = n := by simp only [qln]; exact hWlen
  have hvgd : ∀ l i, vgd l i = l.getD i 0 := fun l i => by simp only [qgd]
  have hne0 : vc .neq 0 0 = false := by rw [qc]; rfl
  have hne1 : vc .neq 10 0 = true := by rw [qc]; rfl
  cbv
  refine loop_fam (α := Int × Int × Int) ([10, 11, 12] ++ [13, 14, 15, 16, 17, 18, 19, 20, 21, 22, 23, 24, 25, 26, 27, 28, 29, 30, 31, 32, 33, 34, 35, 36, 37, 38, 39, 40, 41, 42, 43, 44, 45, 46, 47, 48, 49, 50, 51, 52]) [] (fun (k, x, _) => [(9, .int .i64 k), (8, .int .i64 x)])
    (fun (_, _, pI) => [(0, .one 41 [.slice 1 .z 1 lb cap, .int .i64 pI])])
    (fun (k, x, pI) => ∃ L : Nat, k = L ∧ 1 ≤ L ∧ L ≤ 16 ∧ x = XV (L - 1) ∧ pI = ((p + (L - 1) : Nat) : Int) ∧ p + (L - 1) ≤ T ∧ (∀ j, j < L → KP j ≤ XV j)) (fun (k, _) => 16 - k.toNat) hw hm ?_ ?_
  · refine Cv.genAt [9, 8] [0] (Cv.fold ([10, 11, 12] ++ [13, 14, 15, 16, 17, 18, 19, 20, 21, 22, 23, 24, 25, 26, 27, 28, 29, 30, 31, 32, 33, 34, 35, 36, 37, 38, 39, 40, 41, 42, 43, 44, 45, 46, 47, 48, 49, 50, 51, 52]) 4 [] (by exact Nat.le_refl _) (by exact Nat.le_of_ble_eq_true rfl) (by rfl) (by cbv) ?_)
    intro js
    refine ⟨(_, _, _), ?_, js, rfl⟩
    exact ⟨1, rfl, by omega, by omega, hx0.symm, hpI, hp, fun j hj => by (have h0 : j = 0 := by omega); subst h0; omega⟩
  · rintro ⟨k, x, pI⟩ js ⟨L, hk, hL1, hL2, hx, hpI, hpT, hj⟩
    cbv
    split
    · rename_i hlt
      have hlt : L ≤ 15 := by rw [qc, leq_eq] at hlt; simp only [decide_eq_true_eq] at hlt; simp only [nc] at *; omega
      have hrd1 := hrd pI (p + (L - 1)) hpI hpT
      cbv
      refine call_con (ρ := [(0, .z), (1, .z)]) hrd1 ⟨by rfl, by rfl, by rfl, by cbv; exact ⟨view_refl _, trivial⟩⟩ ?_
      rintro v H R js2 ⟨y, e, pI2, pos2, rfl, hpI2, hcase, rfl, rfl⟩
      cbv
      rcases hcase with ⟨rfl, hp1, hy, rfl⟩ | ⟨rfl, hp1, rfl⟩
      rotate_left
      · rw [hne1]
        cbv
        exact ⟨0, 10, _, _, rfl, hpI2, hD2 (L - 1) (by omega) (by omega) (fun j h => hj j (by omega)), rfl, rfl⟩
      rw [hne0]
      cbv
      obtain ⟨M, rfl⟩ : ∃ M, L = M + 1 := ⟨L - 1, by omega⟩
      simp only [nc] at hk
      simp only [Nat.add_sub_cancel] at hx hpT hy hp1 hpI2
      have hxL := hxs M
      have hstL := hst (M + 1)
      simp only [Nat.add_sub_cancel] at hstL
      have hb1 := hbt (p + M)
      have hxr1 := hxr (M + 1)
      have hxr0 := hxr M
      have hj0 := hj M (by omega)
      have hkp0 := hkp M
      have hall : ∀ kk : Int, kk = ((M + 1 : Nat) : Int) → KP (M + 1) = ST (M + 1) + CN kk n ∧ (∀ u : Nat, 0 ≤ CN kk u ∧ CN kk u ≤ u) ∧ (∀ q, 0 ≤ q → q < CN kk n → ∃ i, i < n ∧ l.getD i 0 = kk ∧ CN kk i = q) ∧
          (∀ u, u < n → l.getD u 0 = kk → W.getD u 0 = ST (M + 1) + CN kk u) ∧ (∀ u, u < n → l.getD u 0 = kk → CN kk u + 1 ≤ CN kk n) ∧
          (∀ i, XV (M + 1) < KP (M + 1) → i < n → l.getD i 0 = kk → CN kk i = XV (M + 1) - ST (M + 1) → DEC i 0 (p + (M + 1))) := by
        rintro kk rfl
        exact ⟨hks (M + 1) (by omega), hcr _, hfind (M + 1), fun u h1 h2 => hWg u (M + 1) h1 (by omega) h2, fun u h1 h2 => ‹∀ u L : Nat, u < n → l.getD u 0 = L → CN L u + 1 ≤ CN L n› u (M + 1) h1 h2,
          fun i h1 h2 h3 h4 => hD1 (M + 1) i (by omega) hlt (by omega) hj h1 h2 h3 h4⟩
      obtain ⟨hkL, hcr1, hfind, hWg, hlt', hD1⟩ := hall k hk
      have hcn := hcr1 n
      have hpw : (2 : Int) ^ (M + 1) ≤ 2 ^ 15 := pow_up hlt
      have hpw0 : (2 : Int) ^ M ≤ 2 ^ 15 := pow_up (by omega)
      have htp := hktop (M + 1) hlt
      obtain ⟨x1, hx1⟩ : ∃ x1, x1 = XV (M + 1) := ⟨_, rfl⟩
      obtain ⟨x2, hx2⟩ : ∃ x2, x2 = 2 * x := ⟨_, rfl⟩
      have em1 : vb .mul .i64 2 x = x2 := by rw [qb, mul_i64 (by omega) (by omega)]; omega
      have ew1 : vw .i64 y = y := by rw [qw]; exact wrap_i64 (by omega) (by omega)
      have ea1 : vb .add .i64 x2 y = x1 := by rw [qb, add_i64 (by omega) (by omega)]; omega
      have hmu : ∀ k1 : Int, k1 = ((M + 1 + 1 : Nat) : Int) → ∀ _ : Unit, 16 - k1.toNat < 16 - k.toNat := by intro k1 h _; omega
      obtain ⟨k1, hk1⟩ : ∃ k1 : Int, k1 = ((M + 1 + 1 : Nat) : Int) := ⟨_, rfl⟩
      have hmu := hmu k1 hk1
      have ek : vb .add .i64 k 1 = k1 := by rw [qb, add_i64 (by omega) (by omega)]; omega
      rw [em1, ew1, ea1]
      refine loop_fam (α := Int) [30, 31, 32, 33, 34, 35, 36, 37, 38, 39, 40, 41, 42, 43, 44, 45, 46, 47, 48, 49, 50, 51, 52] [] (fun q => [(12, .int .i64 q)]) (fun _ => [])
        (fun q => ∃ u : Nat, q = u ∧ u ≤ n ∧ ∀ t, t < u → l.getD t 0 = k → W.getD t 0 ≠ x1) (fun q => n - q.toNat) hw hm ?_ ?_
      · refine Cv.genAt [12] [] (Cv.fold [30, 31, 32, 33, 34, 35, 36, 37, 38, 39, 40, 41, 42, 43, 44, 45, 46, 47, 48, 49, 50, 51, 52] 4 [] (by exact Nat.le_refl _) (by exact Nat.le_of_ble_eq_true rfl) (by rfl) (by cbv) ?_)
        intro js
        refine ⟨_, ?_, js, rfl⟩
        exact ⟨0, rfl, by omega, fun t h => by omega⟩
      · rintro q js3 ⟨u, hq, hu, hno⟩
        cbv
        split
        · rename_i hlt2
          cbv
          have hlt2 : u < n := by rw [qc, lss_true] at hlt2; simp only [qofN] at hlt2; simp only [nc] at *; omega
          have hti : vtoN q = u := by rw [hq]; exact hto u
          have hinR : 0 ≤ q ∧ q < (n : Int) := by simp only [nc] at *; omega
          obtain ⟨q1, hq1⟩ : ∃ q1 : Int, q1 = ((u + 1 : Nat) : Int) := ⟨_, rfl⟩
          have eq1 : vb .add .i64 q 1 = q1 := by simp only [nc] at *; rw [qb, add_i64 (by omega) (by omega)]; omega
          have hmu2 : ∀ _ : Unit, n - q1.toNat < n - q.toNat := fun _ => by simp only [nc] at *; omega
          have hxu := hu8 u
          have hxu1 := hl15 u
          have hlu : u < vln l := by omega
          have hlW : u < vln W := by omega
          have hWu := hWg u hlt2
          have hltu := hlt' u hlt2
          have hcru := hcr1 u
          have hDu := hD1 u
          rw [← hq] at hDu
          have hno2 : (l.getD u 0 = k → W.getD u 0 ≠ x1) → ∀ t, t < u + 1 → l.getD t 0 = k → W.getD t 0 ≠ x1 := fun h t ht h2 => by
            by_cases e : t = u
            · subst e; exact h h2
            · exact hno t (by omega) h2
          rw [hti, hadd0, hvgd l]
          refine ⟨⟨hinR⟩, ⟨hlu⟩, ⟨hlu⟩, ?_⟩
          generalize hxg : l.getD u 0 = g at *
          have ewg : vw .i64 g = g := by rw [qw]; exact wrap_i64 (by omega) (by omega)
          rw [ewg]
          generalize hz3 : vc .eql g k = z3
          cases z3
          · rw [qc, eql_false] at hz3
            cbv
            rw [eq1]
            refine Cv.fold [30, 31, 32, 33, 34, 35, 36, 37, 38, 39, 40, 41, 42, 43, 44, 45, 46, 47, 48, 49, 50, 51, 52] 4 [] (by exact Nat.le_refl _) (by exact Nat.le_of_ble_eq_true rfl) (by rfl) (by cbv) ?_
            intro js
            refine ⟨_, ?_, js, rfl⟩
            exact ⟨⟨u + 1, hq1, hlt2, hno2 (fun h => absurd h hz3)⟩, hmu2 ()⟩
          · rw [qc, eql_true] at hz3
            have hWu := hWu hz3
            have hltu := hltu hz3
            have hDu := fun h => hDu h hlt2 hz3
            have hkp1 := hkp (M + 1 - 1)
            generalize hwv : W.getD u 0 = wv at *
            have ewv : vw .i64 wv = wv := by rw [qw]; exact wrap_i64 (by omega) (by omega)
            cbv
            rw [hti, hadd0, hvgd W, hwv, ewv]
            refine ⟨⟨hinR⟩, ⟨hlW⟩, ⟨hlW⟩, ?_⟩
            generalize hz4 : vc .eql wv x1 = z4
            cases z4
            · rw [qc, eql_false] at hz4
              cbv
              rw [eq1]
              refine Cv.fold [30, 31, 32, 33, 34, 35, 36, 37, 38, 39, 40, 41, 42, 43, 44, 45, 46, 47, 48, 49, 50, 51, 52] 4 [] (by exact Nat.le_refl _) (by exact Nat.le_of_ble_eq_true rfl) (by rfl) (by cbv) ?_
              intro js
              refine ⟨_, ?_, js, rfl⟩
              exact ⟨⟨u + 1, hq1, hlt2, hno2 (fun _ => hz4)⟩, hmu2 ()⟩
            · rw [qc, eql_true] at hz4
              have hDu := hDu (by omega) (by omega)
              cbv
              exact ⟨q, 0, pI2, _, rfl, hpI2, hDu, rfl, rfl⟩
        · rename_i hge
          cbv
          have hui : u = n := by rw [qc, lss_false] at hge; simp only [qofN] at hge; simp only [nc] at *; omega
          subst hui
          have hfull : KP (M + 1) ≤ XV (M + 1) := by
            by_cases h : KP (M + 1) ≤ XV (M + 1)
            · exact h
            · obtain ⟨i, h1, h2, h3⟩ := hfind (XV (M + 1) - ST (M + 1)) (by omega) (by omega)
              exact absurd (by rw [hWg i h1 h2, h3]; omega) (hno i h1 h2)
          rw [ek]
          refine Cv.fold ([10, 11, 12] ++ [13, 14, 15, 16, 17, 18, 19, 20, 21, 22, 23, 24, 25, 26, 27, 28, 29, 30, 31, 32, 33, 34, 35, 36, 37, 38, 39, 40, 41, 42, 43, 44, 45, 46, 47, 48, 49, 50, 51, 52]) 4 [] (by exact Nat.le_refl _) (by exact Nat.le_of_ble_eq_true rfl) (by rfl) (by cbv) ?_
          intro js
          refine ⟨(_, _, _), ?_, js, rfl⟩
          refine ⟨⟨M + 1 + 1, hk1, by omega, by omega, hx1, hpI2, by simp only [Nat.add_sub_cancel]; omega, fun j h => ?_⟩, hmu ()⟩
          by_cases hjM : j = M + 1
          · subst hjM; exact hfull
          · exact hj j (by omega)
    · rename_i hge
      have hL : L = 16 := by rw [qc, leq_eq] at hge; simp only [Bool.not_eq_true, decide_eq_false_iff_not] at hge; simp only [nc] at *; omega
      have := hj 15 (by omega)
      omega
end Go.Proofs.Ytkkddgdcmdnnmaa
namespace Go.Proofs.Ytkkddgdcmdnnmaa
open Go Go.Sx Go.Proofs
/-! The reference of symbols: numbers, lengths of the inner code, codes of lengths. -/
set_option maxRecDepth 10000
set_option maxHeartbeats 4000000
/-- What a reading of the reference tells. -/
def RefR {α : Type} (b : List Int) (r : Except Int (α × Nat)) (ok : α → SV) (bad : Int → SV) (B : Int → List SB) : SV → List SB → List Nat → Prop := fun v H R =>
  R = [] ∧ ∃ (q : Nat) (qI : Int), qI = q ∧ q ≤ 8 * b.length ∧ H = B qI ∧ ((∃ x, r = .ok (x, q) ∧ v = ok x) ∨ ∃ e, r = .error e ∧ 0 < e ∧ e < 100 ∧ v = bad e)
theorem refgt_con (b : List Int) (cap pos n : Nat) (pI nI : Int) (hby : ∀ x ∈ b, isByte x) (hl : b.length ≤ 2 ^ 50) (hp : pos ≤ 8 * b.length) (hpI : pI = pos) (hnI : nI = n) (hn : n ≤ 56) :
    Con Try.prog 47 [.ptr 0 .z 2 0, .int .i64 nI] [.one 41 [.slice 1 .z 1 b.length cap, .int .i64 pI], .ro .u8 b] (RefR b (gt b n pos) (fun x => .tup [.int .u64 x, .int .i64 0]) (fun e => .tup [.int .u64 0, .int .i64 e]) (fun p => [.one 41 [.slice 1 .z 1 b.length cap, .int .i64 p], .ro .u8 b])) := by
  subst hpI hnI
  have hb := refbitsB_con b cap pos n hby hl hp
  refine hb.mono ?_
  rintro v H R ⟨rfl, rfl, rfl⟩
  refine ⟨rfl, ?_⟩
  have hr := bval_bound (bitL b) (bitL_bit b) pos n
  unfold rbE rbX rbP gt
  by_cases hp2 : pos + n ≤ 8 * b.length
  · refine ⟨pos + n, _, ?_, hp2, rfl, .inl ⟨_, by rw [if_pos hp2], ?_⟩⟩
    · rw [if_pos (by omega)]; omega
    · rw [if_pos (by omega), if_pos (by omega), if_pos (by omega), Int.toNat_natCast]
  · refine ⟨pos, _, ?_, hp, rfl, .inr ⟨10, by rw [if_neg hp2], by decide, by decide, ?_⟩⟩
    · rw [if_neg (by omega)]
    · rw [if_neg (by omega), if_pos (by omega), if_neg (by omega)]
theorem gt_two {b : List Int} {pos p1 p2 : Nat} {x0 x1 : Int} (h0 : gt b 1 pos = .ok (x0, p1)) (h1 : gt b 1 p1 = .ok (x1, p2)) : gt b 2 pos = .ok (x0 + 2 * x1, p2) := by
  obtain ⟨_, _, a3, a4, a5⟩ := gt_ok h0
  obtain ⟨_, _, c3, c4, c5⟩ := gt_ok h1
  unfold gt
  rw [if_pos (by omega), a5, c5, a3, bval_split (bitL b) pos 1 1]
  simp only [Except.ok.injEq, Prod.mk.injEq]
  omega
theorem gt_two_e {b : List Int} {pos p1 : Nat} {x0 e : Int} (h0 : gt b 1 pos = .ok (x0, p1)) (h1 : gt b 1 p1 = .error e) : gt b 2 pos = .error e := by
  obtain ⟨_, _, a3, a4, a5⟩ := gt_ok h0
  obtain ⟨rfl, c2⟩ := gt_err h1
  unfold gt
  rw [if_neg (by omega)]
theorem gt_two_e0 {b : List Int} {pos : Nat} {e : Int} (h0 : gt b 1 pos = .error e) : gt b 2 pos = .error e := by
  obtain ⟨rfl, c2⟩ := gt_err h0
  unfold gt
  rw [if_neg (by omega)]
theorem refsmall_con (b : List Int) (cap pos : Nat) (pI : Int) (hby : ∀ x ∈ b, isByte x) (hl : b.length ≤ 2 ^ 50) (hp : pos ≤ 8 * b.length) (hpI : pI = pos) :
    Con Try.prog 71 [.ptr 0 .z 2 0] [.one 41 [.slice 1 .z 1 b.length cap, .int .i64 pI], .ro .u8 b] (RefR b (smR b pos) (fun x => .tup [.int .u8 x, .int .i64 0]) (fun e => .tup [.int .u8 0, .int .i64 e]) (fun p => [.one 41 [.slice 1 .z 1 b.length cap, .int .i64 p], .ro .u8 b])) := by
  have hg := fun (pos : Nat) (pI : Int) hp hpI => refgt_con b cap pos 1 pI 1 hby hl hp hpI rfl (by decide)
  have g01 : ∀ p x q, gt b 1 p = .ok (x, q) → x = 0 ∨ x = 1 := fun p x q h => by have := gt_ok h; omega
  have se1 : ∀ e, gt b 1 pos = .error e → smR b pos = .error e := fun e h => by unfold smR; rw [gt_two_e0 h]
  have se2 : ∀ x p e, gt b 1 pos = .ok (x, p) → gt b 1 p = .error e → smR b pos = .error e := fun x p e h h2 => by unfold smR; rw [gt_two_e h h2]
  have s0 : ∀ p p2, gt b 1 pos = .ok (0, p) → gt b 1 p = .ok (0, p2) → smR b pos = .ok (0, p2) := fun p p2 h h2 => by unfold smR; rw [gt_two h h2]; rfl
  have s1 : ∀ p p2, gt b 1 pos = .ok (1, p) → gt b 1 p = .ok (0, p2) → smR b pos = .ok (4, p2) := fun p p2 h h2 => by unfold smR; rw [gt_two h h2]; rfl
  have s2 : ∀ p p2, gt b 1 pos = .ok (0, p) → gt b 1 p = .ok (1, p2) → smR b pos = .ok (3, p2) := fun p p2 h h2 => by unfold smR; rw [gt_two h h2]; rfl
  have s3e : ∀ p p2 e, gt b 1 pos = .ok (1, p) → gt b 1 p = .ok (1, p2) → gt b 1 p2 = .error e → smR b pos = .error e := fun p p2 e h h2 h3 => by unfold smR; rw [gt_two h h2]; simp only [show (1 : Int) + 2 * 1 = 3 from rfl, if_true, h3]
  have s30 : ∀ p p2 p3, gt b 1 pos = .ok (1, p) → gt b 1 p = .ok (1, p2) → gt b 1 p2 = .ok (0, p3) → smR b pos = .ok (2, p3) := fun p p2 p3 h h2 h3 => by unfold smR; rw [gt_two h h2]; simp only [show (1 : Int) + 2 * 1 = 3 from rfl, if_true, h3]
  have s31e : ∀ p p2 p3 e, gt b 1 pos = .ok (1, p) → gt b 1 p = .ok (1, p2) → gt b 1 p2 = .ok (1, p3) → gt b 1 p3 = .error e → smR b pos = .error e := fun p p2 p3 e h h2 h3 h4 => by unfold smR; rw [gt_two h h2]; simp only [show (1 : Int) + 2 * 1 = 3 from rfl, if_true, h3, h4]; rfl
  have s310 : ∀ p p2 p3 p4, gt b 1 pos = .ok (1, p) → gt b 1 p = .ok (1, p2) → gt b 1 p2 = .ok (1, p3) → gt b 1 p3 = .ok (0, p4) → smR b pos = .ok (1, p4) := fun p p2 p3 p4 h h2 h3 h4 => by unfold smR; rw [gt_two h h2]; simp only [show (1 : Int) + 2 * 1 = 3 from rfl, if_true, h3, h4]; rfl
  have s311 : ∀ p p2 p3 p4, gt b 1 pos = .ok (1, p) → gt b 1 p = .ok (1, p2) → gt b 1 p2 = .ok (1, p3) → gt b 1 p3 = .ok (1, p4) → smR b pos = .ok (5, p4) := fun p p2 p3 p4 h h2 h3 h4 => by unfold smR; rw [gt_two h h2]; simp only [show (1 : Int) + 2 * 1 = 3 from rfl, if_true, h3, h4]; rfl
  generalize smR b pos = r at *
  generalize gt b 1 = G at *
  refine con_gen (con_cut 2 (by simp) (con_drop (con_walk hmix fn71 ?_)))
  intro vb vc vw vtoN vofN vaddN vsubN vmaxI vminI vcutN vgd vst vln vrep vsub vonto vsplice vstrEq vbyteV vnotB veqB hw qb qc qw qtoN qofN qaddN qsubN qmaxI qminI qcutN qgd qst qln qrep qsub qonto qsplice qstrEq qbyteV qnotB qeqB
  have hm := hmix; generalize Try.prog = P at *
  obtain ⟨bl, hbl⟩ : ∃ bl, bl = b.length := ⟨_, rfl⟩
  unfold RefR at *
  rw [← hbl] at hp
  simp only [← hbl] at hg ⊢
  clear hbl hl hby
  subst qb qc qw
  cbv
  refine loop_fam (α := Int × Int × Nat × Int) ([6, 7, 8, 9, 10, 11, 12, 13, 14, 15, 16, 17, 18, 19, 20, 21, 22, 23, 24, 25, 26, 27, 28, 29, 30, 31, 32, 33, 34, 35, 36, 37, 38, 39, 40, 41, 42, 43, 44, 45, 46, 47, 48, 49, 50, 51, 52, 53, 54, 55, 56, 57, 58, 59]) []
    (fun (n, x, p, qI) => [(5, .int .u64 n), (4, .int .u64 x)]) (fun (n, x, p, qI) => [(0, .one 41 [.slice 1 .z 1 bl cap, .int .i64 qI])])
    (fun (n, x, p, qI) => qI = p ∧ p ≤ 8 * bl ∧ ((n = 0 ∧ x = 0 ∧ p = pos) ∨ (n = 1 ∧ x = 0 ∧ G pos = .ok (0, p)) ∨ (n = 1 ∧ x = 1 ∧ G pos = .ok (1, p)) ∨
      (n = 2 ∧ x = 3 ∧ ∃ p1, G pos = .ok (1, p1) ∧ G p1 = .ok (1, p)) ∨
      (n = 3 ∧ x = 7 ∧ ∃ p1 p2, G pos = .ok (1, p1) ∧ G p1 = .ok (1, p2) ∧ G p2 = .ok (1, p)) ∨
      (n = 4 ∧ x = 15 ∧ ∃ p1 p2 p3, G pos = .ok (1, p1) ∧ G p1 = .ok (1, p2) ∧ G p2 = .ok (1, p3) ∧ G p3 = .ok (1, p))))
    (fun (n, x, p, qI) => 4 - n.toNat) hw hm ?_ ?_
  · refine Cv.genAt [4, 5] [0] (Cv.fold ([6, 7, 8, 9, 10, 11, 12, 13, 14, 15, 16, 17, 18, 19, 20, 21, 22, 23, 24, 25, 26, 27, 28, 29, 30, 31, 32, 33, 34, 35, 36, 37, 38, 39, 40, 41, 42, 43, 44, 45, 46, 47, 48, 49, 50, 51, 52, 53, 54, 55, 56, 57, 58, 59]) 2 [] (by exact Nat.le_refl _) (by exact Nat.le_of_ble_eq_true rfl) (by rfl) (by cbv) ?_)
    intro js
    refine ⟨(_, _, pos, _), ?_, js, rfl⟩
    exact ⟨hpI, hp, .inl ⟨rfl, rfl, rfl⟩⟩
  rintro ⟨n, x, p, qI⟩ js ⟨hqI, hp2, hc⟩
  have hgp := hg p qI hp2 hqI
  clear hg
  rcases hc with ⟨rfl, rfl, rfl⟩ | ⟨rfl, rfl, h1⟩ | ⟨rfl, rfl, h1⟩ | ⟨rfl, rfl, p1, h1, h2⟩ | ⟨rfl, rfl, p1, p2, h1, h2, h3⟩ | ⟨rfl, rfl, p1, p2, p3, h1, h2, h3, h4⟩
  · cbv
    refine call_con (ρ := [(0, .z), (1, .z)]) hgp ⟨by rfl, by rfl, by rfl, by cbv; exact ⟨view_refl _, trivial⟩⟩ ?_
    rintro v H R js2 ⟨rfl, q, qI2, hq2, hq8, rfl, ⟨y, hy, rfl⟩ | ⟨e, he, he0, he1, rfl⟩⟩
    rotate_left
    · have hne : (decide (e = 0)) = false := by simp; omega
      have hr := se1 e he
      cbv
      rw [hne]
      cbv
      exact ⟨q, qI2, hq2, hq8, rfl, .inr ⟨e, hr, he0, he1, rfl⟩⟩
    rcases g01 _ _ _ hy with rfl | rfl
    · cbv
      refine ⟨⟨by decide⟩, ?_⟩
      refine Cv.genAt [4, 5] [0] (Cv.fold ([6, 7, 8, 9, 10, 11, 12, 13, 14, 15, 16, 17, 18, 19, 20, 21, 22, 23, 24, 25, 26, 27, 28, 29, 30, 31, 32, 33, 34, 35, 36, 37, 38, 39, 40, 41, 42, 43, 44, 45, 46, 47, 48, 49, 50, 51, 52, 53, 54, 55, 56, 57, 58, 59]) 2 [] (by exact Nat.le_refl _) (by exact Nat.le_of_ble_eq_true rfl) (by rfl) (by cbv) ?_)
      intro js
      refine ⟨(_, _, q, _), ?_, js, rfl⟩
      exact ⟨⟨hq2, hq8, .inr (.inl ⟨rfl, rfl, hy⟩)⟩, (by decide : 3 < 4)⟩
    · cbv
      refine ⟨⟨by decide⟩, ?_⟩
      refine Cv.genAt [4, 5] [0] (Cv.fold ([6, 7, 8, 9, 10, 11, 12, 13, 14, 15, 16, 17, 18, 19, 20, 21, 22, 23, 24, 25, 26, 27, 28, 29, 30, 31, 32, 33, 34, 35, 36, 37, 38, 39, 40, 41, 42, 43, 44, 45, 46, 47, 48, 49, 50, 51, 52, 53, 54, 55, 56, 57, 58, 59]) 2 [] (by exact Nat.le_refl _) (by exact Nat.le_of_ble_eq_true rfl) (by rfl) (by cbv) ?_)
      intro js
      refine ⟨(_, _, q, _), ?_, js, rfl⟩
      exact ⟨⟨hq2, hq8, .inr (.inr (.inl ⟨rfl, rfl, hy⟩))⟩, (by decide : 3 < 4)⟩
  · cbv
    refine call_con (ρ := [(0, .z), (1, .z)]) hgp ⟨by rfl, by rfl, by rfl, by cbv; exact ⟨view_refl _, trivial⟩⟩ ?_
    rintro v H R js2 ⟨rfl, q, qI2, hq2, hq8, rfl, ⟨y, hy, rfl⟩ | ⟨e, he, he0, he1, rfl⟩⟩
    rotate_left
    · have hne : (decide (e = 0)) = false := by simp; omega
      have hr := se2 _ _ e h1 he
      cbv
      rw [hne]
      cbv
      exact ⟨q, qI2, hq2, hq8, rfl, .inr ⟨e, hr, he0, he1, rfl⟩⟩
    rcases g01 _ _ _ hy with rfl | rfl
    · have hr := s0 _ _ h1 hy
      cbv
      refine ⟨⟨by decide⟩, ?_⟩
      exact ⟨q, qI2, hq2, hq8, rfl, .inl ⟨0, hr, rfl⟩⟩
    · have hr := s2 _ _ h1 hy
      cbv
      refine ⟨⟨by decide⟩, ?_⟩
      exact ⟨q, qI2, hq2, hq8, rfl, .inl ⟨3, hr, rfl⟩⟩
  · cbv
    refine call_con (ρ := [(0, .z), (1, .z)]) hgp ⟨by rfl, by rfl, by rfl, by cbv; exact ⟨view_refl _, trivial⟩⟩ ?_
    rintro v H R js2 ⟨rfl, q, qI2, hq2, hq8, rfl, ⟨y, hy, rfl⟩ | ⟨e, he, he0, he1, rfl⟩⟩
    rotate_left
    · have hne : (decide (e = 0)) = false := by simp; omega
      have hr := se2 _ _ e h1 he
      cbv
      rw [hne]
      cbv
      exact ⟨q, qI2, hq2, hq8, rfl, .inr ⟨e, hr, he0, he1, rfl⟩⟩
    rcases g01 _ _ _ hy with rfl | rfl
    · have hr := s1 _ _ h1 hy
      cbv
      refine ⟨⟨by decide⟩, ?_⟩
      exact ⟨q, qI2, hq2, hq8, rfl, .inl ⟨4, hr, rfl⟩⟩
    · cbv
      refine ⟨⟨by decide⟩, ?_⟩
      refine Cv.genAt [4, 5] [0] (Cv.fold ([6, 7, 8, 9, 10, 11, 12, 13, 14, 15, 16, 17, 18, 19, 20, 21, 22, 23, 24, 25, 26, 27, 28, 29, 30, 31, 32, 33, 34, 35, 36, 37, 38, 39, 40, 41, 42, 43, 44, 45, 46, 47, 48, 49, 50, 51, 52, 53, 54, 55, 56, 57, 58, 59]) 2 [] (by exact Nat.le_refl _) (by exact Nat.le_of_ble_eq_true rfl) (by rfl) (by cbv) ?_)
      intro js
      refine ⟨(_, _, q, _), ?_, js, rfl⟩
      exact ⟨⟨hq2, hq8, .inr (.inr (.inr (.inl ⟨rfl, rfl, p, h1, hy⟩)))⟩, (by decide : 2 < 3)⟩
  · cbv
    refine call_con (ρ := [(0, .z), (1, .z)]) hgp ⟨by rfl, by rfl, by rfl, by cbv; exact ⟨view_refl _, trivial⟩⟩ ?_
    rintro v H R js2 ⟨rfl, q, qI2, hq2, hq8, rfl, ⟨y, hy, rfl⟩ | ⟨e, he, he0, he1, rfl⟩⟩
    rotate_left
    · have hne : (decide (e = 0)) = false := by simp; omega
      have hr := s3e _ _ e h1 h2 he
      cbv
      rw [hne]
      cbv
      exact ⟨q, qI2, hq2, hq8, rfl, .inr ⟨e, hr, he0, he1, rfl⟩⟩
    rcases g01 _ _ _ hy with rfl | rfl
    · have hr := s30 _ _ _ h1 h2 hy
      cbv
      refine ⟨⟨by decide⟩, ?_⟩
      exact ⟨q, qI2, hq2, hq8, rfl, .inl ⟨2, hr, rfl⟩⟩
    · cbv
      refine ⟨⟨by decide⟩, ?_⟩
      refine Cv.genAt [4, 5] [0] (Cv.fold ([6, 7, 8, 9, 10, 11, 12, 13, 14, 15, 16, 17, 18, 19, 20, 21, 22, 23, 24, 25, 26, 27, 28, 29, 30, 31, 32, 33, 34, 35, 36, 37, 38, 39, 40, 41, 42, 43, 44, 45, 46, 47, 48, 49, 50, 51, 52, 53, 54, 55, 56, 57, 58, 59]) 2 [] (by exact Nat.le_refl _) (by exact Nat.le_of_ble_eq_true rfl) (by rfl) (by cbv) ?_)
      intro js
      refine ⟨(_, _, q, _), ?_, js, rfl⟩
      exact ⟨⟨hq2, hq8, .inr (.inr (.inr (.inr (.inl ⟨rfl, rfl, p1, p, h1, h2, hy⟩))))⟩, (by decide : 1 < 2)⟩
  · cbv
    refine call_con (ρ := [(0, .z), (1, .z)]) hgp ⟨by rfl, by rfl, by rfl, by cbv; exact ⟨view_refl _, trivial⟩⟩ ?_
    rintro v H R js2 ⟨rfl, q, qI2, hq2, hq8, rfl, ⟨y, hy, rfl⟩ | ⟨e, he, he0, he1, rfl⟩⟩
    rotate_left
    · have hne : (decide (e = 0)) = false := by simp; omega
      have hr := s31e _ _ _ e h1 h2 h3 he
      cbv
      rw [hne]
      cbv
      exact ⟨q, qI2, hq2, hq8, rfl, .inr ⟨e, hr, he0, he1, rfl⟩⟩
    rcases g01 _ _ _ hy with rfl | rfl
    · have hr := s310 _ _ _ _ h1 h2 h3 hy
      cbv
      refine ⟨⟨by decide⟩, ?_⟩
      exact ⟨q, qI2, hq2, hq8, rfl, .inl ⟨1, hr, rfl⟩⟩
    · cbv
      refine ⟨⟨by decide⟩, ?_⟩
      refine Cv.genAt [4, 5] [0] (Cv.fold ([6, 7, 8, 9, 10, 11, 12, 13, 14, 15, 16, 17, 18, 19, 20, 21, 22, 23, 24, 25, 26, 27, 28, 29, 30, 31, 32, 33, 34, 35, 36, 37, 38, 39, 40, 41, 42, 43, 44, 45, 46, 47, 48, 49, 50, 51, 52, 53, 54, 55, 56, 57, 58, 59]) 2 [] (by exact Nat.le_refl _) (by exact Nat.le_of_ble_eq_true rfl) (by rfl) (by cbv) ?_)
      intro js
      refine ⟨(_, _, q, _), ?_, js, rfl⟩
      exact ⟨⟨hq2, hq8, .inr (.inr (.inr (.inr (.inr ⟨rfl, rfl, p1, p2, p, h1, h2, h3, hy⟩))))⟩, (by decide : 0 < 1)⟩
  · have hr := s311 _ _ _ _ h1 h2 h3 h4
    cbv
    exact ⟨p, qI, hqI, hp2, rfl, .inl ⟨5, hr, rfl⟩⟩
theorem words72_con (l : List Int) (cap : Nat) (hR : Rt l) :
    Con Try.prog 72 [.slice 0 .z 1 l.length cap] [.ro .u8 l] (fun v H R => v = .slice 1 .z 1 l.length l.length ∧ H = [.ro .u8 l, .ints 116 .u16 (WL l)] ∧ R = []) := by
  have hw := refwords_con l cap hR
  obtain ⟨ll, hll⟩ : ∃ ll, ll = l.length := ⟨_, rfl⟩
  rw [← hll] at hw ⊢
  generalize WL l = W at *
  refine con_gen (con_cut 2 (by simp) (con_drop (con_walk hmix fn72 ?_)))
  have hwc := hw
  clear hw
  intro vb vc vw vtoN vofN vaddN vsubN vmaxI vminI vcutN vgd vst vln vrep vsub vonto vsplice vstrEq vbyteV vnotB veqB hw qb qc qw qtoN qofN qaddN qsubN qmaxI qminI qcutN qgd qst qln qrep qsub qonto qsplice qstrEq qbyteV qnotB qeqB
  have hm := hmix; generalize Try.prog = P at *
  cbv
  refine call_con (ρ := [(0, .z)]) hwc ⟨by rfl, by rfl, by rfl, by cbv; exact ⟨view_refl _, trivial⟩⟩ ?_
  rintro v H R js ⟨rfl, rfl, rfl⟩
  cbv
theorem of50_con (l : List Int) (cap : Nat) (hR : Rt l) :
    Con Try.prog 50 [.slice 0 .z 1 l.length cap] [.ro .u8 l] (fun v H R => v = .agg [.slice 0 .z 1 l.length cap, .slice 1 .z 1 l.length l.length, .int .i64 0] ∧ H = [.ro .u8 l, .ints 116 .u16 (WL l)] ∧ R = []) := by
  have hw := words72_con l cap hR
  obtain ⟨ll, hll⟩ : ∃ ll, ll = l.length := ⟨_, rfl⟩
  rw [← hll] at hw ⊢
  generalize WL l = W at *
  refine con_gen (con_picks (con_drop (con_walk hmix fn50 ?_)))
  have hwc := hw
  clear hw
  intro vb vc vw vtoN vofN vaddN vsubN vmaxI vminI vcutN vgd vst vln vrep vsub vonto vsplice vstrEq vbyteV vnotB veqB hw qb qc qw qtoN qofN qaddN qsubN qmaxI qminI qcutN qgd qst qln qrep qsub qonto qsplice qstrEq qbyteV qnotB qeqB
  have hm := hmix; generalize Try.prog = P at *
  cbv
  refine call_con (ρ := [(0, .z)]) hwc ⟨by rfl, by rfl, by rfl, by cbv; exact ⟨view_refl _, trivial⟩⟩ ?_
  rintro v H R js ⟨rfl, rfl, rfl⟩
  cbv
  exact ⟨[0, 2], .agg [.slice 0 .z 1 ll cap, .slice 1 .z 1 ll ll, .lit .i64 0], [.ro .u8 l, .ints 116 .u16 W], rfl, rfl, rfl, rfl, ⟨rfl, rfl, trivial⟩, rfl, rfl, rfl⟩
end Go.Proofs.Ytkkddgdcmdnnmaa
namespace Go.Proofs.Ytkkddgdcmdnnmaa
open Go Go.Sx Go.Proofs
/-! The reference's inner code. -/
set_option maxRecDepth 10000
set_option maxHeartbeats 4000000
/-- What the reference tells of a code. -/
def RefCode (b : List Int) (r : Except Int ((Int ⊕ List Int) × Nat)) (B : Int → List SB) : SV → List SB → List Nat → Prop := fun v H R =>
  R = [] ∧ ∃ (q : Nat) (qI : Int), qI = q ∧ q ≤ 8 * b.length ∧ ((∃ n, r = .ok (.inl n, q) ∧ v = .tup [.agg [.val (.slice none 0 0), .val (.slice none 0 0), .int .i64 n], .int .i64 0] ∧ H = B qI) ∨
    (∃ L cp, r = .ok (.inr L, q) ∧ v = .tup [.agg [.slice 2 .z 1 L.length cp, .slice 3 .z 1 L.length L.length, .int .i64 0], .int .i64 0] ∧ H = B qI ++ [.ints 5 .u8 L, .ints 116 .u16 (WL L)]) ∨
    ∃ e, r = .error e ∧ 0 < e ∧ e < 100 ∧ v = .tup [.agg [.val (.slice none 0 0), .val (.slice none 0 0), .int .i64 0], .int .i64 e] ∧ H = B qI)
theorem set_same {L : List Int} {i : Nat} (h : L.getD i 0 = 0) : L.set i 0 = L := by
  apply List.ext_getElem?
  intro j
  rw [List.getElem?_set]
  split
  · rename_i e; subst e
    split
    · rename_i h2
      rw [List.getD_eq_getElem?_getD, List.getElem?_eq_getElem h2] at h
      simp only [Option.getD_some] at h
      rw [List.getElem?_eq_getElem h2, h]
    · rename_i h2
      rw [List.getElem?_eq_none (by omega)]
  · rfl
theorem refinner_con (b : List Int) (cap pos sk : Nat) (pI skI : Int) (hby : ∀ x ∈ b, isByte x) (hl : b.length ≤ 2 ^ 50) (hp : pos ≤ 8 * b.length) (hpI : pI = pos) (hsk : skI = sk) (hs : sk ≤ 3) :
    Con Try.prog 49 [.ptr 0 .z 2 0, .int .i64 skI] [.one 41 [.slice 1 .z 1 b.length cap, .int .i64 pI], .ro .u8 b] (RefCode b (innerR b sk pos) (fun p => [.one 41 [.slice 1 .z 1 b.length cap, .int .i64 p], .ro .u8 b])) := by
  have hsm := fun (pos : Nat) (pI : Int) hp hpI => refsmall_con b cap pos pI hby hl hp hpI
  have hof := fun (l : List Int) (cap : Nat) hR => of50_con l cap hR
  have hx := fun p x q h => smR_ok (b := b) (p := p) (x := x) (q := q) h
  have hinn : ∀ c q, innerR b sk pos = .ok (c, q) → InnOk c := fun c q h => (innerR_ok (by omega) hp h).1
  have k0 : ∀ e, innR b (18 - sk) sk pos (List.replicate 18 0) 32 0 0 = .error e → innerR b sk pos = .error e := fun e h => by unfold innerR; rw [h]
  have k1 : ∀ L left one q, innR b (18 - sk) sk pos (List.replicate 18 0) 32 0 0 = .ok ((L, left, 1, one), q) → innerR b sk pos = .ok (.inl one, q) := fun L left one q h => by unfold innerR; rw [h]; rfl
  have k2 : ∀ L cnt one q, innR b (18 - sk) sk pos (List.replicate 18 0) 32 0 0 = .ok ((L, 0, cnt, one), q) → cnt ≠ 1 → innerR b sk pos = .ok (.inr L, q) := fun L cnt one q h h1 => by unfold innerR; rw [h]; simp only [if_neg h1, if_true]
  have k3 : ∀ L left cnt one q, innR b (18 - sk) sk pos (List.replicate 18 0) 32 0 0 = .ok ((L, left, cnt, one), q) → cnt ≠ 1 → left ≠ 0 → innerR b sk pos = .error 11 := fun L left cnt one q h h1 h2 => by unfold innerR; rw [h]; simp only [if_neg h1, if_neg h2]
  have s0 : ∀ i p L left cnt one, innR b 0 i p L left cnt one = .ok ((L, left, cnt, one), p) := fun _ _ _ _ _ _ => rfl
  have s1 : ∀ k i p L left cnt one e, smR b p = .error e → innR b (k + 1) i p L left cnt one = .error e := fun k i p L left cnt one e h => by simp only [innR, h]
  have s2 : ∀ k i p L left cnt one q, smR b p = .ok (0, q) → innR b (k + 1) i p L left cnt one = innR b k (i + 1) q L left cnt one := fun k i p L left cnt one q h => by simp only [innR, h]; rfl
  have s3 : ∀ k i p L left cnt one x q, smR b p = .ok (x, q) → x ≠ 0 → left - 32 / 2 ^ x.toNat ≤ 0 → innR b (k + 1) i p L left cnt one = .ok ((L.set (ordL.getD i 0).toNat x, left - 32 / 2 ^ x.toNat, cnt + 1, ordL.getD i 0), q) := fun k i p L left cnt one x q h h1 h2 => by simp only [innR, h, if_neg h1, if_pos h2]
  have s4 : ∀ k i p L left cnt one x q, smR b p = .ok (x, q) → x ≠ 0 → ¬ left - 32 / 2 ^ x.toNat ≤ 0 → innR b (k + 1) i p L left cnt one = innR b k (i + 1) q (L.set (ordL.getD i 0).toNat x) (left - 32 / 2 ^ x.toNat) (cnt + 1) (ordL.getD i 0) := fun k i p L left cnt one x q h h1 h2 => by simp only [innR, h, if_neg h1, if_neg h2]
  obtain ⟨r1, hr1⟩ : ∃ r1, innR b (18 - sk) sk pos (List.replicate 18 0) 32 0 0 = r1 := ⟨_, rfl⟩
  rw [hr1] at k0 k1 k2 k3
  obtain ⟨L0, hL0⟩ : ∃ L0, L0 = List.replicate 18 (0 : Int) := ⟨_, rfl⟩
  have hL0l : L0.length = 18 := by rw [hL0]; rfl
  rw [← hL0] at hr1
  have hz0 : ∀ j, j < 18 → L0.getD (ordL.getD j 0).toNat 0 = 0 := by rw [hL0]; decide
  have horr := ordL_range
  have hinj := ordL_inj
  have hordL : ordL = [1, 2, 3, 4, 0, 5, 17, 6, 16, 7, 8, 9, 10, 11, 12, 13, 14, 15] := rfl
  generalize innerR b sk pos = r at *
  generalize innR b = IN at *
  generalize smR b = SM at *
  generalize ordL = OL at *
  refine con_gen (con_picks (con_drop (con_walk hmix fn49 ?_)))
  intro vb vc vw vtoN vofN vaddN vsubN vmaxI vminI vcutN vgd vst vln vrep vsub vonto vsplice vstrEq vbyteV vnotB veqB hw qb qc qw qtoN qofN qaddN qsubN qmaxI qminI qcutN qgd qst qln qrep qsub qonto qsplice qstrEq qbyteV qnotB qeqB
  have hm := hmix; generalize Try.prog = P at *
  obtain ⟨bl, hbl⟩ : ∃ bl, bl = b.length := ⟨_, rfl⟩
  unfold RefR at hsm
  unfold RefCode
  simp only [← hbl] at hsm hp ⊢
  clear hbl hl hby
  have hto : ∀ i : Nat, vtoN (i : Int) = i := fun i => by simp only [qtoN, Int.toNat_natCast]
  have hlnq : ∀ l, vln l = l.length := fun l => by rw [qln]
  have hgd : ∀ l j, vgd l j = l.getD j 0 := fun l j => by rw [qgd]
  have hst : ∀ L i v, vst L i v = L.set i v := fun L i v => by rw [qst]
  have hadd0 : ∀ i, vaddN 0 i = i := fun i => by simp only [qaddN, Nat.zero_add]
  have hrep : vrep 18 0 = L0 := by rw [qrep, hL0]
  have ht18 : vtoN 18 = 18 := hto 18
  have e00 : vc .eql 0 0 = true := by rw [qc]; rfl
  cbv
  rw [ht18, hrep]
  refine ⟨⟨by decide⟩, ⟨by decide⟩, ⟨by decide⟩, ⟨by decide⟩, ?_⟩
  refine loop_fam (α := Int × Int × Int × Int × List Int × Nat × Int) (([12, 13] ++ [17, 18, 19, 20, 21, 22, 23, 24, 25, 26, 27, 28, 29, 30, 31, 32, 33, 34, 35, 36, 37, 38, 39, 40]) ++ [41, 42, 43, 44, 45, 46, 47, 48, 49, 50, 51, 52]) []
    (fun (i, tk, cnt, one, L, p, qI) => [(11, .int .i64 i), (8, .int .i64 tk), (9, .int .i64 cnt), (10, .int .i64 one)])
    (fun (i, tk, cnt, one, L, p, qI) => [(0, .one 41 [.slice 1 .z 1 bl cap, .int .i64 qI]), (4, .ints 5 .u8 L)])
    (fun (i, tk, cnt, one, L, p, qI) => ∃ iN : Nat, i = iN ∧ iN ≤ 18 ∧ L.length = 18 ∧ (∀ j, iN ≤ j → j < 18 → L.getD (OL.getD j 0).toNat 0 = 0) ∧ qI = p ∧ p ≤ 8 * bl ∧ 0 ≤ tk ∧ tk ≤ 64 ∧ 0 ≤ cnt ∧ cnt ≤ iN ∧
      ((tk < 32 ∧ IN (18 - iN) iN p L (32 - tk) cnt one = r1) ∨ (32 ≤ tk ∧ r1 = .ok ((L, 32 - tk, cnt, one), p))))
    (fun (i, tk, cnt, one, L, p, qI) => 18 - i.toNat) hw hm ?_ ?_
  · refine Cv.genAt [11, 8, 9, 10] [0] (Cv.fold (([12, 13] ++ [17, 18, 19, 20, 21, 22, 23, 24, 25, 26, 27, 28, 29, 30, 31, 32, 33, 34, 35, 36, 37, 38, 39, 40]) ++ [41, 42, 43, 44, 45, 46, 47, 48, 49, 50, 51, 52]) 5 [] (by exact Nat.le_refl _) (by exact Nat.le_of_ble_eq_true rfl) (by rfl) (by cbv) ?_)
    intro js
    refine ⟨(_, _, _, _, _, pos, _), ?_, js, rfl⟩
    exact ⟨sk, hsk, by omega, hL0l, fun j _ hj => hz0 j hj, hpI, hp, by decide, by decide, by decide, by omega, .inl ⟨by decide, hr1⟩⟩
  rintro ⟨i, tk, cnt, one, L, p, qI⟩ js ⟨iN, hi, hi18, hLl, hLz, hqI, hp8, htk0, htk, hcnt0, hcnt, hIN⟩
  have hsmp := hsm p qI hp8 hqI
  have hti : vtoN i = iN := by rw [hi]; exact hto iN
  have hvL : vln L = 18 := by rw [hlnq]; exact hLl
  have hti : vtoN i = iN := by rw [hi]; exact hto iN
  have hlO : vln [1, 2, 3, 4, 0, 5, 17, 6, 16, 7, 8, 9, 10, 11, 12, 13, 14, 15] = 18 := by rw [hlnq]; rfl
  obtain ⟨kn, hkn⟩ : ∃ kn : Int, kn = ((iN + 1 : Nat) : Int) := ⟨_, rfl⟩
  have ek : iN < 18 → vb .add .i64 i 1 = kn := fun h => by rw [qb, add_i64 (by omega) (by omega)]; omega
  have hmu : iN < 18 → 18 - kn.toNat < 18 - i.toNat := fun h => by omega
  obtain ⟨c2, hc2⟩ : ∃ c2, c2 = cnt + 1 := ⟨_, rfl⟩
  have ec : vb .add .i64 cnt 1 = c2 := by rw [qb, add_i64 (by omega) (by omega)]; omega
  have hc2r : 0 ≤ c2 ∧ c2 ≤ ((iN + 1 : Nat) : Int) := by omega
  have hcr : 0 ≤ cnt ∧ cnt ≤ ((iN + 1 : Nat) : Int) := by omega
  have el1 : iN < 18 → vc .lss i 18 = true := fun h => by rw [qc, lss_true]; omega
  have el1n : ¬ iN < 18 → vc .lss i 18 = false := fun h => by rw [qc, lss_false]; omega
  have hinR : iN < 18 → 0 ≤ i ∧ i < ((18 : Nat) : Int) := fun h => by omega
  have htail : ¬ (iN < 18 ∧ tk < 32) → r1 = .ok ((L, 32 - tk, cnt, one), p) := fun h => by
    rcases hIN with h2 | h2
    · rw [← h2.2, show 18 - iN = 0 by omega]; exact s0 _ _ _ _ _ _
    · exact h2.2
  cbv
  by_cases hlt : iN < 18 ∧ tk < 32
  · have el1 := el1 hlt.1
    have ek := ek hlt.1
    have hmu := hmu hlt.1
    have hinR := hinR hlt.1
    have el2 : vc .lss tk 32 = true := by rw [qc, lss_true]; exact hlt.2
    have hIN : IN (18 - iN) iN p L (32 - tk) cnt one = r1 := by rcases hIN with h | h; exact h.2; omega
    obtain ⟨m, hm1⟩ : ∃ m, 18 - iN = m + 1 := ⟨18 - iN - 1, by omega⟩
    rw [hm1] at hIN
    rw [el1]
    cbv
    rw [el2]
    cbv
    refine call_con (ρ := [(0, .z), (1, .z)]) hsmp ⟨by rfl, by rfl, by rfl, by cbv; exact ⟨view_refl _, trivial⟩⟩ ?_
    rintro v H R js2 ⟨rfl, q, qI2, hq2, hq8, rfl, ⟨x, hgx, rfl⟩ | ⟨e, hge, he0, he1, rfl⟩⟩
    rotate_left
    · have hS1 : r1 = .error e := by rw [← hIN]; exact s1 _ _ _ _ _ _ _ _ hge
      have hk := k0 e hS1
      have ene : vc .neq e 0 = true := by rw [qc, neq_true]; omega
      cbv
      rw [ene]
      cbv
      exact ⟨[0, 1], .tup [.agg [.val (.slice none 0 0), .val (.slice none 0 0), .lit .i64 0], .int .i64 e], [.one 41 [.slice 1 .z 1 bl cap, .int .i64 qI2], .ro .u8 b], rfl, rfl, rfl, rfl, ⟨rfl, rfl, trivial⟩, rfl, q, qI2, hq2, hq8, .inr (.inr ⟨e, hk, he0, he1, rfl, rfl⟩)⟩
    have hxr := hx p x q hgx
    have ene : vc .neq 0 0 = false := by rw [qc]; rfl
    obtain ⟨s, hs2⟩ : ∃ s, s = OL.getD iN 0 := ⟨_, rfl⟩
    have hgO : vgd [1, 2, 3, 4, 0, 5, 17, 6, 16, 7, 8, 9, 10, 11, 12, 13, 14, 15] iN = s := by rw [hgd, hs2, hordL]
    have hsr := horr iN
    rw [← hs2] at hsr
    have hts : vtoN s = s.toNat := by rw [qtoN]
    have hsS : s.toNat < 18 := by omega
    have hsI : 0 ≤ s ∧ s < ((18 : Nat) : Int) := by omega
    obtain ⟨L2, hL2⟩ : ∃ L2, L2 = L.set s.toNat x := ⟨_, rfl⟩
    have hL2l : L2.length = 18 := by rw [hL2, List.length_set]; exact hLl
    have hL2z : ∀ j, iN + 1 ≤ j → j < 18 → L2.getD (OL.getD j 0).toNat 0 = 0 := fun j hj hj2 => by
      rw [hL2, getD_set_ne (fun e => ?_)]
      · exact hLz j (by omega) hj2
      · rw [hs2] at e
        have := hinj iN (by omega) j hj2 e
        omega
    have hsL : L.getD s.toNat 0 = 0 := by rw [hs2]; exact hLz iN (Nat.le_refl _) hlt.1
    have hm0 : 18 - (iN + 1) = m := by omega
    cbv
    rw [ene]
    cbv
    rw [hti, hgO, hts, hst, ← hL2]
    refine ⟨⟨hinR⟩, ⟨by rw [hlO]; exact hlt.1⟩, ⟨hsI⟩, ⟨by rw [hvL]; exact hsS⟩, ?_⟩
    by_cases hx0 : x = 0
    · subst hx0
      have e0 : vc .gtr 0 0 = false := by rw [qc]; rfl
      have hL2e : L2 = L := by rw [hL2]; exact set_same hsL
      have hS1 : IN m (iN + 1) q L (32 - tk) cnt one = r1 := by rw [← hIN]; exact (s2 _ _ _ _ _ _ _ _ hgx).symm
      rw [e0]
      cbv
      rw [ek]
      refine Cv.fold (([12, 13] ++ [17, 18, 19, 20, 21, 22, 23, 24, 25, 26, 27, 28, 29, 30, 31, 32, 33, 34, 35, 36, 37, 38, 39, 40]) ++ [41, 42, 43, 44, 45, 46, 47, 48, 49, 50, 51, 52]) 5 [] (by exact Nat.le_refl _) (by exact Nat.le_of_ble_eq_true rfl) (by rfl) (by cbv) ?_
      intro js
      refine ⟨(_, _, _, _, _, q, _), ?_, js, rfl⟩
      exact ⟨⟨iN + 1, hkn, hlt.1, hL2l, hL2z, hq2, hq8, htk0, htk, hcr.1, hcr.2, .inl ⟨hlt.2, by rw [hm0, hL2e]; exact hS1⟩⟩, hmu⟩
    · have e0 : vc .gtr x 0 = true := by rw [qc, gtr_true]; omega
      obtain ⟨sh, hsh⟩ : ∃ sh : Int, sh = 32 / 2 ^ x.toNat := ⟨_, rfl⟩
      have s3' := s3 m iN p L (32 - tk) cnt one x q hgx hx0
      have s4' := s4 m iN p L (32 - tk) cnt one x q hgx hx0
      rw [← hsh, ← hs2] at s3' s4'
      have hx5 : x = 1 ∨ x = 2 ∨ x = 3 ∨ x = 4 ∨ x = 5 := by omega
      have esh : vb .shr .i64 32 x = sh := by rw [qb, hsh]; rcases hx5 with rfl | rfl | rfl | rfl | rfl <;> decide
      have hshr : 1 ≤ sh ∧ sh ≤ 16 := by rw [hsh]; rcases hx5 with rfl | rfl | rfl | rfl | rfl <;> decide
      obtain ⟨tk2, htk2⟩ : ∃ tk2, tk2 = tk + sh := ⟨_, rfl⟩
      have etk : vb .add .i64 tk sh = tk2 := by rw [qb, add_i64 (by omega) (by omega)]; exact htk2.symm
      have hlf : 32 - tk - sh = 32 - tk2 := by omega
      rw [← hL2, ← hc2, hlf] at s3' s4'
      have htk2r : 0 ≤ tk2 ∧ tk2 ≤ 64 := by omega
      have hdisj : (tk2 < 32 ∧ IN m (iN + 1) q L2 (32 - tk2) c2 s = r1) ∨ (32 ≤ tk2 ∧ r1 = .ok ((L2, 32 - tk2, c2, s), q)) := by
        by_cases hle : 32 - tk2 ≤ 0
        · right
          have := s3' hle
          rw [hIN] at this
          exact ⟨by omega, this⟩
        · left
          have := s4' hle
          rw [hIN] at this
          exact ⟨by omega, this.symm⟩
      rw [← hm0] at hdisj
      rw [e0]
      cbv
      rw [hti, esh, etk, ec, ek, hgO]
      refine ⟨⟨hxr.1⟩, ⟨hinR⟩, ⟨by rw [hlO]; exact hlt.1⟩, ?_⟩
      refine Cv.fold (([12, 13] ++ [17, 18, 19, 20, 21, 22, 23, 24, 25, 26, 27, 28, 29, 30, 31, 32, 33, 34, 35, 36, 37, 38, 39, 40]) ++ [41, 42, 43, 44, 45, 46, 47, 48, 49, 50, 51, 52]) 5 [] (by exact Nat.le_refl _) (by exact Nat.le_of_ble_eq_true rfl) (by rfl) (by cbv) ?_
      intro js
      refine ⟨(_, _, _, _, _, q, _), ?_, js, rfl⟩
      exact ⟨⟨iN + 1, hkn, hlt.1, hL2l, hL2z, hq2, hq8, htk2r.1, htk2r.2, hc2r.1, hc2r.2, hdisj⟩, hmu⟩
  · have hr1' := htail hlt
    have key : ∀ X : Prop, X → X := fun _ h => h
    have hex : (vc .lss i 18 = true ∧ vc .lss tk 32 = false) ∨ vc .lss i 18 = false := by
      by_cases h : iN < 18
      · left; exact ⟨el1 h, by rw [qc, lss_false]; intro h2; exact hlt ⟨h, h2⟩⟩
      · right; exact el1n h
    rcases hex with ⟨e1, e2⟩ | e1
    · rw [e1]
      cbv
      rw [e2]
      cbv
      by_cases hc1 : cnt = 1
      · have e1 : vc .eql cnt 1 = true := by rw [qc]; exact eql_true.2 hc1
        rw [hc1] at hr1'
        have hk := k1 _ _ _ _ hr1'
        rw [e1]
        cbv
        exact ⟨[0, 1], .tup [.agg [.val (.slice none 0 0), .val (.slice none 0 0), .int .i64 one], .lit .i64 0], [.one 41 [.slice 1 .z 1 bl cap, .int .i64 qI], .ro .u8 b], rfl, rfl, rfl, rfl, ⟨rfl, rfl, trivial⟩, rfl, p, qI, hqI, hp8, .inl ⟨one, hk, rfl, rfl⟩⟩
      · have e1 : vc .eql cnt 1 = false := by rw [qc]; exact eql_false.2 hc1
        rw [e1]
        cbv
        by_cases h32 : tk = 32
        · have e2 : vc .neq tk 32 = false := by rw [qc, neq_false]; exact fun h => h h32
          rw [h32] at hr1'
          have hk := k2 _ _ _ _ hr1' hc1
          have hin := hinn _ _ hk
          have hofL := hof L 18 hin.2.2.2
          rw [hLl] at hofL
          rw [e2]
          cbv
          refine call_con (ρ := [(4, .z)]) hofL ⟨by rfl, by rfl, by rfl, by cbv; exact ⟨view_refl _, trivial⟩⟩ ?_
          rintro v H R js5 ⟨rfl, rfl, rfl⟩
          generalize hW : WL L = W
          cbv
          subst hW
          exact ⟨[0, 1, 4, 5], .tup [.agg [.slice 2 .z 1 18 18, .slice 3 .z 1 18 18, .int .i64 0], .lit .i64 0], [.one 41 [.slice 1 .z 1 bl cap, .int .i64 qI], .ro .u8 b, .ints 5 .u8 L, .ints 116 .u16 (WL L)], rfl, rfl, rfl, rfl, ⟨rfl, rfl, rfl, rfl, trivial⟩, rfl, p, qI, hqI, hp8, .inr (.inl ⟨L, 18, hk, by rw [hLl]; rfl, rfl⟩)⟩
        · have e2 : vc .neq tk 32 = true := by rw [qc, neq_true]; exact h32
          have hk := k3 _ _ _ _ _ hr1' hc1 (by omega)
          rw [e2]
          cbv
          exact ⟨[0, 1], .tup [.agg [.val (.slice none 0 0), .val (.slice none 0 0), .lit .i64 0], .lit .i64 11], [.one 41 [.slice 1 .z 1 bl cap, .int .i64 qI], .ro .u8 b], rfl, rfl, rfl, rfl, ⟨rfl, rfl, trivial⟩, rfl, p, qI, hqI, hp8, .inr (.inr ⟨11, hk, by decide, by decide, rfl, rfl⟩)⟩
    · rw [e1]
      cbv
      by_cases hc1 : cnt = 1
      · have e1 : vc .eql cnt 1 = true := by rw [qc]; exact eql_true.2 hc1
        rw [hc1] at hr1'
        have hk := k1 _ _ _ _ hr1'
        rw [e1]
        cbv
        exact ⟨[0, 1], .tup [.agg [.val (.slice none 0 0), .val (.slice none 0 0), .int .i64 one], .lit .i64 0], [.one 41 [.slice 1 .z 1 bl cap, .int .i64 qI], .ro .u8 b], rfl, rfl, rfl, rfl, ⟨rfl, rfl, trivial⟩, rfl, p, qI, hqI, hp8, .inl ⟨one, hk, rfl, rfl⟩⟩
      · have e1 : vc .eql cnt 1 = false := by rw [qc]; exact eql_false.2 hc1
        rw [e1]
        cbv
        by_cases h32 : tk = 32
        · have e2 : vc .neq tk 32 = false := by rw [qc, neq_false]; exact fun h => h h32
          rw [h32] at hr1'
          have hk := k2 _ _ _ _ hr1' hc1
          have hin := hinn _ _ hk
          have hofL := hof L 18 hin.2.2.2
          rw [hLl] at hofL
          rw [e2]
          cbv
          refine call_con (ρ := [(4, .z)]) hofL ⟨by rfl, by rfl, by rfl, by cbv; exact ⟨view_refl _, trivial⟩⟩ ?_
          rintro v H R js5 ⟨rfl, rfl, rfl⟩
          generalize hW : WL L = W
          cbv
          subst hW
          exact ⟨[0, 1, 4, 5], .tup [.agg [.slice 2 .z 1 18 18, .slice 3 .z 1 18 18, .int .i64 0], .lit .i64 0], [.one 41 [.slice 1 .z 1 bl cap, .int .i64 qI], .ro .u8 b, .ints 5 .u8 L, .ints 116 .u16 (WL L)], rfl, rfl, rfl, rfl, ⟨rfl, rfl, rfl, rfl, trivial⟩, rfl, p, qI, hqI, hp8, .inr (.inl ⟨L, 18, hk, by rw [hLl]; rfl, rfl⟩)⟩
        · have e2 : vc .neq tk 32 = true := by rw [qc, neq_true]; exact h32
          have hk := k3 _ _ _ _ _ hr1' hc1 (by omega)
          rw [e2]
          cbv
          exact ⟨[0, 1], .tup [.agg [.val (.slice none 0 0), .val (.slice none 0 0), .lit .i64 0], .lit .i64 11], [.one 41 [.slice 1 .z 1 bl cap, .int .i64 qI], .ro .u8 b], rfl, rfl, rfl, rfl, ⟨rfl, rfl, trivial⟩, rfl, p, qI, hqI, hp8, .inr (.inr ⟨11, hk, by decide, by decide, rfl, rfl⟩)⟩
end Go.Proofs.Ytkkddgdcmdnnmaa
namespace Go.Proofs.Ytkkddgdcmdnnmaa
open Go Go.Sx Go.Proofs
/-! The reference's code of few symbols. -/
set_option maxRecDepth 10000
set_option maxHeartbeats 40000000
theorem reffew_con (b : List Int) (cap pos : Nat) (pI size : Int) (hby : ∀ x ∈ b, isByte x) (hl : b.length ≤ 2 ^ 50) (hp : pos ≤ 8 * b.length) (hpI : pI = pos) (hs : 1 ≤ size ∧ size ≤ 1024) :
    Con Try.prog 48 [.ptr 0 .z 2 0, .int .i64 size] [.one 41 [.slice 1 .z 1 b.length cap, .int .i64 pI], .ro .u8 b] (RefCode b (fewR b size pos) (fun p => [.one 41 [.slice 1 .z 1 b.length cap, .int .i64 p], .ro .u8 b])) := by
  have g2 := refgt_con b cap pos 2 pI 2 hby hl hp hpI rfl (by decide)
  have g1 := fun (pos : Nat) (pI : Int) hp hpI => refgt_con b cap pos 1 pI 1 hby hl hp hpI rfl (by decide)
  obtain ⟨w, hw, hw10⟩ : ∃ w : Nat, blen (size - 1) = w ∧ w ≤ 10 := by
    have := blen_range (x := size - 1) (n := 10) (by omega) (by omega)
    exact ⟨(blen (size - 1)).toNat, by omega, by omega⟩
  have gw := fun (pos : Nat) (pI wI : Int) hp hpI hwI => refgt_con b cap pos w pI wI hby hl hp hpI hwI (by omega)
  have hlen := width_con (size - 1) (by omega)
  have hwt : (blen (size - 1)).toNat = w := by omega
  rw [hw] at hlen
  obtain ⟨wI, hwI⟩ : ∃ wI : Int, wI = w := ⟨_, rfl⟩
  rw [← hwI] at hlen
  have gw := fun (pos : Nat) (pI : Int) hp hpI => gw pos pI wI hp hpI hwI
  obtain ⟨sz1, hsz1⟩ : ∃ sz1 : Int, sz1 = size - 1 := ⟨_, rfl⟩
  rw [← hsz1] at hlen
  have hof := fun (l : List Int) (cap : Nat) hR => of50_con l cap hR
  have hfew : ∀ c q, fewR b size pos = .ok (c, q) → CodeOk size c := fun c q h => (fewR_ok hs hp h).1
  have hx := fun x q h => gt_ok (b := b) (n := 2) (p := pos) (x := x) (q := q) h
  have hy := fun p x q h => gt_ok (b := b) (n := 1) (p := p) (x := x) (q := q) h
  have hsy := fun p x q h => gt_ok (b := b) (n := w) (p := p) (x := x) (q := q) h
  have k0 : ∀ e, gt b 2 pos = .error e → fewR b size pos = .error e := fun e h => by unfold fewR; rw [h]
  have k1 : ∀ x q e, gt b 2 pos = .ok (x, q) → symsR b w size (x.toNat + 1) q [] = .error e → fewR b size pos = .error e := fun x q e h h2 => by unfold fewR; rw [h]; simp only [hwt, h2]
  have k2 : ∀ x q l q2, gt b 2 pos = .ok (x, q) → symsR b w size (x.toNat + 1) q [] = .ok (l, q2) → ¬ l.Nodup → fewR b size pos = .error 11 := fun x q l q2 h h2 h3 => by unfold fewR; rw [h]; simp only [hwt, h2, if_neg h3]
  have k3 : ∀ q l q2, gt b 2 pos = .ok (0, q) → symsR b w size 1 q [] = .ok (l, q2) → l.Nodup → fewR b size pos = .ok (.inl (l.getD 0 0), q2) := fun q l q2 h h2 h3 => by
    have h2 : symsR b w size ((0 : Int).toNat + 1) q [] = .ok (l, q2) := h2
    unfold fewR; rw [h]; simp only [hwt, h2, if_pos h3, if_true]
  have k4 : ∀ q l q2 e, gt b 2 pos = .ok (3, q) → symsR b w size 4 q [] = .ok (l, q2) → l.Nodup → gt b 1 q2 = .error e → fewR b size pos = .error e := fun q l q2 e h h2 h3 h4 => by
    have h2 : symsR b w size ((3 : Int).toNat + 1) q [] = .ok (l, q2) := h2
    unfold fewR; rw [h]; simp only [hwt, h2, if_pos h3, h4]; rfl
  have k5 : ∀ q l q2 y q3, gt b 2 pos = .ok (3, q) → symsR b w size 4 q [] = .ok (l, q2) → l.Nodup → gt b 1 q2 = .ok (y, q3) → fewR b size pos = .ok (.inr (putS (List.replicate size.toNat 0) l (givL 4 y)), q3) := fun q l q2 y q3 h h2 h3 h4 => by
    have h2 : symsR b w size ((3 : Int).toNat + 1) q [] = .ok (l, q2) := h2
    unfold fewR; rw [h]; simp only [hwt, h2, if_pos h3, h4]; rfl
  have k6 : ∀ q l q2, gt b 2 pos = .ok (1, q) → symsR b w size 2 q [] = .ok (l, q2) → l.Nodup → fewR b size pos = .ok (.inr (putS (List.replicate size.toNat 0) l [1, 1]), q2) := fun q l q2 h h2 h3 => by
    have h2 : symsR b w size ((1 : Int).toNat + 1) q [] = .ok (l, q2) := h2
    unfold fewR; rw [h]; simp only [hwt, h2, if_pos h3]; rfl
  have k7 : ∀ q l q2, gt b 2 pos = .ok (2, q) → symsR b w size 3 q [] = .ok (l, q2) → l.Nodup → fewR b size pos = .ok (.inr (putS (List.replicate size.toNat 0) l [1, 2, 2]), q2) := fun q l q2 h h2 h3 => by
    have h2 : symsR b w size ((2 : Int).toNat + 1) q [] = .ok (l, q2) := h2
    unfold fewR; rw [h]; simp only [hwt, h2, if_pos h3]; rfl
  have s0 : ∀ p l, symsR b w size 0 p l = .ok (l, p) := fun _ _ => rfl
  have s1 : ∀ k p l e, gt b w p = .error e → symsR b w size (k + 1) p l = .error e := fun k p l e h => by simp only [symsR, h]
  have s2 : ∀ k p l s q, gt b w p = .ok (s, q) → s < size → symsR b w size (k + 1) p l = symsR b w size k q (l ++ [s]) := fun k p l s q h h2 => by simp only [symsR, h, if_pos h2]
  have s3 : ∀ k p l s q, gt b w p = .ok (s, q) → ¬ s < size → symsR b w size (k + 1) p l = .error 11 := fun k p l s q h h2 => by simp only [symsR, h, if_neg h2]
  have pd := @putS_drop
  have pn := putS_nil
  have gv1 : givL 4 1 = [1, 2, 3, 3] := rfl
  have gv0 : givL 4 0 = [2, 2, 2, 2] := rfl
  have hnd := @nodup_of
  have hnn := @not_nodup
  generalize fewR b size pos = r at *
  generalize symsR b w size = SY at *
  generalize putS = PS at *
  generalize gt b 2 pos = G2 at *
  generalize gt b 1 = G1 at *
  generalize gt b w = GW at *
  generalize givL = GV at *
  generalize hNdd : (List.Nodup : List Int → Prop) = ND at *
  refine con_gen (con_picks (con_drop (con_walk hmix fn48 ?_)))
  have hwb := hw
  clear hw
  intro vb vc vw vtoN vofN vaddN vsubN vmaxI vminI vcutN vgd vst vln vrep vsub vonto vsplice vstrEq vbyteV vnotB veqB hw qb qc qw qtoN qofN qaddN qsubN qmaxI qminI qcutN qgd qst qln qrep qsub qonto qsplice qstrEq qbyteV qnotB qeqB
  have hm := hmix; generalize Try.prog = P at *
  obtain ⟨bl, hbl⟩ : ∃ bl, bl = b.length := ⟨_, rfl⟩
  unfold RefR at g2 g1 gw
  unfold RefCode
  simp only [← hbl] at g2 g1 gw hp ⊢
  clear hbl hl hby
  have hto : ∀ i : Nat, vtoN (i : Int) = i := fun i => by simp only [qtoN, Int.toNat_natCast]
  have hadd0 : ∀ i, vaddN 0 i = i := fun i => by simp only [qaddN, Nat.zero_add]
  have es1 : vb .sub .i64 size 1 = sz1 := by rw [qb, sub_i64 (by omega) (by omega), hsz1]
  have hlnq : ∀ l, vln l = l.length := fun l => by rw [qln]
  have hgd : ∀ l j, vgd l j = l.getD j 0 := fun l j => by rw [qgd]
  have e00 : vc .neq 0 0 = false := by rw [qc]; rfl
  cbv
  refine call_con (ρ := [(0, .z), (1, .z)]) g2 ⟨by rfl, by rfl, by rfl, by cbv; exact ⟨view_refl _, trivial⟩⟩ ?_
  rintro v H R js ⟨rfl, q, qI, hq, hq8, rfl, ⟨x, hg, rfl⟩ | ⟨e, hg, he0, he1, rfl⟩⟩
  rotate_left
  · have hk := k0 e hg
    have ene : vc .neq e 0 = true := by rw [qc, neq_true]; omega
    cbv
    rw [ene]
    cbv
    exact ⟨[0, 1], .tup [.agg [.val (.slice none 0 0), .val (.slice none 0 0), .lit .i64 0], .int .i64 e], [.one 41 [.slice 1 .z 1 bl cap, .int .i64 qI], .ro .u8 b], rfl, rfl, rfl, rfl, ⟨rfl, rfl, trivial⟩, rfl, q, qI, hq, hq8, .inr (.inr ⟨e, hk, he0, he1, rfl, rfl⟩)⟩
  have hxr := hx x q hg
  have hx4 : 0 ≤ x ∧ x < 4 := by omega
  have ewx : vw .i64 x = x := by rw [qw]; exact wrap_i64 (by omega) (by omega)
  have k1' := fun e => k1 x q e hg
  have k2' := fun l q2 => k2 x q l q2 hg
  obtain ⟨n, hn⟩ : ∃ n : Nat, n = x.toNat + 1 := ⟨_, rfl⟩
  obtain ⟨r1, hr1⟩ : ∃ r1, SY (x.toNat + 1) q [] = r1 := ⟨_, rfl⟩
  have hr1n : SY n q [] = r1 := by rw [hn]; exact hr1
  rw [hr1] at k1' k2'
  cbv
  rw [e00]
  cbv
  refine WX.cv (Cv.nilT 8 3 .i64 (by rfl) (by cbv) (Cv.here ?_))
  refine loop_fam (α := Int × List Int × Nat × Nat × Nat × Int) ([10, 11] ++ [28, 29, 30, 31, 32, 33, 34, 35, 36, 37, 38, 39, 40, 41, 42, 43, 44, 45, 46, 47, 48, 49, 50, 51, 52, 53, 54, 55]) [3]
    (fun (k, l, rl, c, p, pI) => [(9, .int .i64 k), (8, .slice 3 .z 1 rl c)])
    (fun (k, l, rl, c, p, pI) => [(0, .one 41 [.slice 1 .z 1 bl cap, .int .i64 pI]), (3, .buf 3 .i64 l c)])
    (fun (k, l, rl, c, p, pI) => ∃ i : Nat, k = i ∧ i ≤ n ∧ rl = l.length ∧ l.length = i ∧ rl ≤ c ∧ pI = p ∧ p ≤ 8 * bl ∧ SY (n - i) p l = r1 ∧ ∀ j, j < i → 0 ≤ l.getD j 0 ∧ l.getD j 0 < size)
    (fun (k, l, rl, c, p, pI) => n - k.toNat) hw hm ?_ ?_
  · refine Cv.genAt [9] [0] (Cv.fold ([10, 11] ++ [28, 29, 30, 31, 32, 33, 34, 35, 36, 37, 38, 39, 40, 41, 42, 43, 44, 45, 46, 47, 48, 49, 50, 51, 52, 53, 54, 55]) 4 [3] (by exact Nat.le_refl _) (by exact Nat.le_of_ble_eq_true rfl) (by rfl) (by cbv) ?_)
    intro js
    refine ⟨(_, _, _, _, q, _), ?_, js, rfl⟩
    exact ⟨0, rfl, by omega, rfl, rfl, by omega, hq, hq8, hr1n, fun j hj => absurd hj (by omega)⟩
  rintro ⟨k, l, rl, c, p, pI2⟩ js2 ⟨i, hk, hi, hrl, hli, hrc, hpI2, hp8, hSY, hlb⟩
  have hk : k = (i : Int) := hk
  have hgw := gw p pI2 hp8 hpI2
  have hcmp : i < n → vc .leq k x = true := fun h => by rw [qc, leq_true]; omega
  have hcmpn : ¬ i < n → vc .leq k x = false := fun h => by rw [qc, leq_false]; omega
  obtain ⟨kn, hkn⟩ : ∃ kn : Int, kn = ((i + 1 : Nat) : Int) := ⟨_, rfl⟩
  have ek : vb .add .i64 k 1 = kn := by rw [qb, add_i64 (by omega) (by omega)]; omega
  have hmu : i < n → n - kn.toNat < n - k.toNat := fun h => by omega
  have hn4 : n ≤ 4 := by omega
  cbv
  rw [ewx]
  by_cases hlt : i < n
  · obtain ⟨m, hm1⟩ : ∃ m, n - i = m + 1 := ⟨n - i - 1, by omega⟩
    rw [hm1] at hSY
    have hmu := hmu hlt
    rw [hcmp hlt]
    cbv
    rw [es1]
    refine call_con (ρ := []) hlen ⟨by rfl, by rfl, by rfl, by cbv⟩ ?_
    rintro v H R js3 ⟨rfl, rfl, rfl⟩
    cbv
    refine call_con (ρ := [(0, .z), (1, .z)]) hgw ⟨by rfl, by rfl, by rfl, by cbv; exact ⟨view_refl _, trivial⟩⟩ ?_
    rintro v H R js4 ⟨rfl, q3, qI3, hq3, hq38, rfl, ⟨s, hgs, rfl⟩ | ⟨e, hgs, he0, he1, rfl⟩⟩
    rotate_left
    · have hS1 : r1 = .error e := by rw [← hSY]; exact s1 _ _ _ _ hgs
      have hk := k1' e hS1
      have ene : vc .neq e 0 = true := by rw [qc, neq_true]; omega
      cbv
      rw [ene]
      cbv
      exact ⟨[0, 1], .tup [.agg [.val (.slice none 0 0), .val (.slice none 0 0), .lit .i64 0], .int .i64 e], [.one 41 [.slice 1 .z 1 bl cap, .int .i64 qI3], .ro .u8 b], rfl, rfl, rfl, rfl, ⟨rfl, rfl, trivial⟩, rfl, q3, qI3, hq3, hq38, .inr (.inr ⟨e, hk, he0, he1, rfl, rfl⟩)⟩
    have hsr := hsy p s q3 hgs
    have hp10 : (2 : Int) ^ w ≤ 2 ^ 10 := pow_up hw10
    have ews : vw .i64 s = s := by rw [qw]; exact wrap_i64 (by omega) (by omega)
    cbv
    rw [e00]
    cbv
    rw [ews]
    by_cases hsl : s < size
    rotate_left
    · have hS1 : r1 = .error 11 := by rw [← hSY]; exact s3 _ _ _ _ _ hgs hsl
      have hk := k1' 11 hS1
      have ege : vc .geq s size = true := by rw [qc, geq_true]; omega
      rw [ege]
      cbv
      exact ⟨[0, 1], .tup [.agg [.val (.slice none 0 0), .val (.slice none 0 0), .lit .i64 0], .lit .i64 11], [.one 41 [.slice 1 .z 1 bl cap, .int .i64 qI3], .ro .u8 b], rfl, rfl, rfl, rfl, ⟨rfl, rfl, trivial⟩, rfl, q3, qI3, hq3, hq38, .inr (.inr ⟨11, hk, by decide, by decide, rfl, rfl⟩)⟩
    have ege : vc .geq s size = false := by rw [qc, geq_false]; omega
    have hS1 : SY m q3 (l ++ [s]) = r1 := by rw [← hSY]; exact (s2 _ _ _ _ _ hgs hsl).symm
    have hsub : vsub [s] 0 1 = [s] := by simp only [qsub]; rfl
    have honto : vonto l rl [s] = l ++ [s] := by rw [qonto, hrl]; simp
    have ha1 : vaddN rl 1 = rl + 1 := by simp only [qaddN]
    have ha01 : vaddN 0 1 = 1 := by simp only [qaddN]
    have hln1 : vln [s] = 1 := by rw [hlnq]; rfl
    have hvl : vln l = rl := by rw [hlnq, hrl]
    obtain ⟨l2, hl2⟩ : ∃ l2, l2 = l ++ [s] := ⟨_, rfl⟩
    rw [← hl2] at honto hS1
    obtain ⟨rl2, hrl2⟩ : ∃ rl2, rl2 = rl + 1 := ⟨_, rfl⟩
    have hl2l : l2.length = i + 1 := by rw [hl2]; simp [hli]
    have hl2g : ∀ j, j < i + 1 → 0 ≤ l2.getD j 0 ∧ l2.getD j 0 < size := by
      intro j hj
      rw [hl2, List.getD_eq_getElem?_getD]
      rcases Nat.lt_or_ge j i with hlt2 | hge2
      · rw [List.getElem?_append_left (by omega), ← List.getD_eq_getElem?_getD]; exact hlb j hlt2
      · have : j = l.length := by omega
        subst this
        simp
        omega
    rw [← hrl2] at ha1
    rw [ege]
    cbv
    rw [ews]
    refine ⟨⟨by rw [ha01, hln1]; exact Nat.le_refl _⟩, ⟨by rw [hvl]; exact Nat.le_refl _⟩, ⟨Nat.le_refl _⟩, ⟨by rw [ha1]; omega⟩, ?_⟩
    intro c2 js5 hc2
    have hc3 : vaddN rl 1 ≤ c2 := hc2.1
    rw [ha1] at hc3
    cbv
    rw [hsub, honto, ha1, ek]
    refine Cv.fold ([10, 11] ++ [28, 29, 30, 31, 32, 33, 34, 35, 36, 37, 38, 39, 40, 41, 42, 43, 44, 45, 46, 47, 48, 49, 50, 51, 52, 53, 54, 55]) 4 [3] (by exact Nat.le_refl _) (by exact Nat.le_of_ble_eq_true rfl) (by rfl) (by cbv) ?_
    intro js
    refine ⟨(_, _, _, _, q3, _), ?_, js, rfl⟩
    exact ⟨⟨i + 1, hkn, hlt, by omega, hl2l, hc3, hq3, hq38, by rw [show n - (i + 1) = m by omega]; exact hS1, hl2g⟩, hmu⟩
  have hin : i = n := by omega
  subst hin
  have hl1 : r1 = .ok (l, p) := by rw [← hSY, Nat.sub_self]; exact s0 p l
  have hvl : vln l = rl := by rw [hlnq, hrl]
  obtain ⟨rlI, hrlI⟩ : ∃ rlI : Int, rlI = rl := ⟨_, rfl⟩
  have hofn : vofN rl = rlI := by rw [qofN]; exact hrlI.symm
  rw [hcmpn (by omega)]
  cbv
  refine loop_fam (α := Int) (13 :: [56, 57, 58, 59, 60, 61, 62, 63, 64, 65, 66, 67, 68, 69, 70, 71, 72, 73, 74, 75, 76]) [3]
    (fun k => [(12, .int .i64 k)]) (fun _ => [])
    (fun k => ∃ j : Nat, k = j ∧ j ≤ i ∧ ∀ m, m < j → ∀ q, q < m → l.getD q 0 ≠ l.getD m 0) (fun k => i - k.toNat) hw hm ?_ ?_
  · refine Cv.genAt [12] [] (Cv.fold (13 :: [56, 57, 58, 59, 60, 61, 62, 63, 64, 65, 66, 67, 68, 69, 70, 71, 72, 73, 74, 75, 76]) 4 [3] (by exact Nat.le_refl _) (by exact Nat.le_of_ble_eq_true rfl) (by rfl) (by cbv) ?_)
    intro js
    refine ⟨_, ?_, js, rfl⟩
    exact ⟨0, rfl, by omega, fun m hm => absurd hm (by omega)⟩
  rintro kk js3 ⟨j, hk2, hj, hne⟩
  have hk2 : kk = (j : Int) := hk2
  have hrlI : rlI = (rl : Int) := hrlI
  have htj : vtoN kk = j := by rw [hk2]; exact hto j
  have hcm : j < i → vc .lss kk rlI = true := fun h => by rw [qc, lss_true]; omega
  have hcmn : ¬ j < i → vc .lss kk rlI = false := fun h => by rw [qc, lss_false]; omega
  obtain ⟨kj, hk3⟩ : ∃ kj : Int, kj = ((j + 1 : Nat) : Int) := ⟨_, rfl⟩
  have ek3 : vb .add .i64 kk 1 = kj := by rw [qb, add_i64 (by omega) (by omega)]; omega
  have hmu2 : j < i → i - kj.toNat < i - kk.toNat := fun h => by omega
  have hinR : j < i → 0 ≤ kk ∧ kk < (rl : Int) := fun h => by omega
  cbv
  rw [hofn]
  by_cases hlt2 : j < i
  · rw [hcm hlt2]
    have hmu2 := hmu2 hlt2
    have hinR := hinR hlt2
    cbv
    refine loop_fam (α := Int) ([62, 63, 64, 65, 66, 67, 68, 69, 70, 71, 72, 73, 74, 75, 76]) [3]
      (fun k => [(13, .int .i64 k)]) (fun _ => [])
      (fun k => ∃ q : Nat, k = q ∧ q ≤ j ∧ ∀ m, m < q → l.getD m 0 ≠ l.getD j 0) (fun k => j - k.toNat) hw hm ?_ ?_
    · refine Cv.genAt [13] [] (Cv.fold ([62, 63, 64, 65, 66, 67, 68, 69, 70, 71, 72, 73, 74, 75, 76]) 4 [3] (by exact Nat.le_refl _) (by exact Nat.le_of_ble_eq_true rfl) (by rfl) (by cbv) ?_)
      intro js
      refine ⟨_, ?_, js, rfl⟩
      exact ⟨0, rfl, by omega, fun m hm => absurd hm (by omega)⟩
    rintro kq js4 ⟨q5, hk5, hq5, hne2⟩
    have hk5 : kq = (q5 : Int) := hk5
    have hk2 : kk = (j : Int) := hk2
    have htq : vtoN kq = q5 := by rw [hk5]; exact hto q5
    have hcm3 : q5 < j → vc .lss kq kk = true := fun h => by rw [qc, lss_true]; omega
    have hcm3n : ¬ q5 < j → vc .lss kq kk = false := fun h => by rw [qc, lss_false]; omega
    obtain ⟨k6n, hk6⟩ : ∃ k6n : Int, k6n = ((q5 + 1 : Nat) : Int) := ⟨_, rfl⟩
    have ek6 : vb .add .i64 kq 1 = k6n := by rw [qb, add_i64 (by omega) (by omega)]; omega
    have hmu3 : q5 < j → j - k6n.toNat < j - kq.toNat := fun h => by omega
    have hinR3 : q5 < j → 0 ≤ kq ∧ kq < (rl : Int) := fun h => by omega
    cbv
    by_cases hlt3 : q5 < j
    · rw [hcm3 hlt3]
      have hmu3 := hmu3 hlt3
      have hinR3 := hinR3 hlt3
      cbv
      rw [htj, htq, hadd0, hadd0, hgd, hgd]
      refine ⟨⟨hinR⟩, ⟨by rw [hvl]; omega⟩, ⟨by rw [hvl]; omega⟩, ⟨hinR3⟩, ⟨by rw [hvl]; omega⟩, ⟨by rw [hvl]; omega⟩, ?_⟩
      by_cases heq : l.getD j 0 = l.getD q5 0
      · have ee : vc .eql (l.getD j 0) (l.getD q5 0) = true := by rw [qc, eql_true]; exact heq
        have hnd2 := hnn (l := l) (j := j) (q := q5) (by omega) hlt3 heq.symm
        have hk := k2' l p hl1 hnd2
        rw [ee]
        cbv
        exact ⟨[0, 1], .tup [.agg [.val (.slice none 0 0), .val (.slice none 0 0), .lit .i64 0], .lit .i64 11], [.one 41 [.slice 1 .z 1 bl cap, .int .i64 pI2], .ro .u8 b], rfl, rfl, rfl, rfl, ⟨rfl, rfl, trivial⟩, rfl, p, pI2, hpI2, hp8, .inr (.inr ⟨11, hk, by decide, by decide, rfl, rfl⟩)⟩
      · have ee : vc .eql (l.getD j 0) (l.getD q5 0) = false := by rw [qc, eql_false]; exact heq
        rw [ee]
        cbv
        rw [ek6]
        refine Cv.fold ([62, 63, 64, 65, 66, 67, 68, 69, 70, 71, 72, 73, 74, 75, 76]) 4 [3] (by exact Nat.le_refl _) (by exact Nat.le_of_ble_eq_true rfl) (by rfl) (by cbv) ?_
        intro js
        refine ⟨_, ?_, js, rfl⟩
        refine ⟨⟨q5 + 1, hk6, hlt3, fun m hm => ?_⟩, hmu3⟩
        rcases Nat.lt_or_ge m q5 with h7 | h7
        · exact hne2 m h7
        · have : m = q5 := by omega
          subst this
          exact fun h => heq h.symm
    · rw [hcm3n hlt3]
      cbv
      rw [ek3]
      refine Cv.fold (13 :: [56, 57, 58, 59, 60, 61, 62, 63, 64, 65, 66, 67, 68, 69, 70, 71, 72, 73, 74, 75, 76]) 4 [3] (by exact Nat.le_refl _) (by exact Nat.le_of_ble_eq_true rfl) (by rfl) (by cbv) ?_
      intro js
      refine ⟨_, ?_, js, rfl⟩
      refine ⟨⟨j + 1, hk3, hlt2, fun m hm q7 hq7 => ?_⟩, hmu2⟩
      rcases Nat.lt_or_ge m j with h7 | h7
      · exact hne m h7 q7 hq7
      · have : m = j := by omega
        subst this
        exact hne2 q7 (by omega)
  have hji : j = i := by omega
  have hND : ND l := hnd (fun m hm => hne m (by omega))
  have hgl : ∀ q5, q5 < i → 0 ≤ l.getD q5 0 ∧ l.getD q5 0 < size := hlb
  rw [hcmn hlt2]
  clear hne hlb hnd hnn s1 s2 s3 hsy hSY hcm hcmn hmu2 hinR hcmp hcmpn hmu hgw
  have hx4' : x = 0 ∨ x = 1 ∨ x = 2 ∨ x = 3 := by omega
  rcases hx4' with rfl | rfl | rfl | rfl
  · have hi1 : i = 1 := by omega
    have hk := k3 q l p hg (by rw [← hl1, ← hr1]; rfl) hND
    have ht0 : vtoN 0 = 0 := hto 0
    have e03 : vc .eql 0 3 = false := by rw [qc]; rfl
    have e000 : vc .eql 0 0 = true := by rw [qc]; rfl
    have hl0R : 0 ≤ (0 : Int) ∧ (0 : Int) < (rl : Int) := by omega
    cbv
    rw [ht0]
    cbv
    refine ⟨⟨by decide⟩, ?_⟩
    rw [e03]
    cbv
    rw [e000]
    cbv
    rw [hadd0, hgd]
    refine ⟨⟨hl0R⟩, ⟨by rw [hvl]; omega⟩, ⟨by rw [hvl]; omega⟩, ?_⟩
    exact ⟨[0, 1], .tup [.agg [.val (.slice none 0 0), .val (.slice none 0 0), .int .i64 (l.getD 0 0)], .lit .i64 0], [.one 41 [.slice 1 .z 1 bl cap, .int .i64 pI2], .ro .u8 b], rfl, rfl, rfl, rfl, ⟨rfl, rfl, trivial⟩, rfl, p, pI2, hpI2, hp8, .inl ⟨_, hk, rfl, rfl⟩⟩
  · have hi1 : i = 2 := by omega
    have hk := k6 q l p hg (by rw [← hl1, ← hr1]; rfl) hND
    have ht1 : vtoN 1 = 1 := hto 1
    have e13 : vc .eql 1 3 = false := by rw [qc]; rfl
    have e10 : vc .eql 1 0 = false := by rw [qc]; rfl
    cbv
    rw [ht1]
    cbv
    refine ⟨⟨by decide⟩, ?_⟩
    rw [e13]
    cbv
    rw [e10]
    cbv
    obtain ⟨S, hS⟩ : ∃ S, S = size.toNat := ⟨_, rfl⟩
    have htS : vtoN size = S := by rw [qtoN]; exact hS.symm
    have hrep : vrep S 0 = List.replicate S 0 := by rw [qrep]
    obtain ⟨g, hg7⟩ : ∃ g : List Int, g = [1, 1] := ⟨_, rfl⟩
    rw [← hS] at hk
    obtain ⟨Lf, hLf⟩ : ∃ Lf, Lf = PS (List.replicate S 0) l [1, 1] := ⟨_, rfl⟩
    rw [← hLf] at hk
    rw [← hg7] at hLf
    obtain ⟨L0, hL0⟩ : ∃ L0, L0 = List.replicate S (0 : Int) := ⟨_, rfl⟩
    rw [← hL0] at hrep hLf
    have hL0l : L0.length = S := by rw [hL0]; simp
    have hgl7 : g.length = 2 := by rw [hg7]; rfl
    have hlg : vln [1, 1] = 2 := by rw [hlnq]; rfl
    have hst : ∀ L i v, vst L i v = L.set i v := fun L i v => by rw [qst]
    have hrl2 : rl = 2 := by omega
    have hrlI2 : rlI = 2 := by rw [hrlI, hrl2]; rfl
    have hlfC := hfew _ _ hk
    refine ⟨⟨by omega⟩, ⟨by omega⟩, ⟨by omega⟩, ⟨by show size * 1 ≤ 281474976710656; omega⟩, ?_⟩
    rw [htS, hrep]
    refine loop_fam (α := Int × List Int) ([111, 112, 113, 114, 115, 116, 117, 118, 119, 120, 121, 122, 123, 124, 125, 126]) [3]
      (fun (kk, L) => [(18, .int .i64 kk)]) (fun (kk, L) => [(10, .ints 5 .u8 L)])
      (fun (kk, L) => ∃ j2 : Nat, kk = j2 ∧ j2 ≤ 2 ∧ L.length = S ∧ PS L (l.drop j2) (g.drop j2) = Lf) (fun (kk, L) => 2 - kk.toNat) hw hm ?_ ?_
    · refine Cv.genAt [18] [] (Cv.fold ([111, 112, 113, 114, 115, 116, 117, 118, 119, 120, 121, 122, 123, 124, 125, 126]) 11 [3] (by exact Nat.le_refl _) (by exact Nat.le_of_ble_eq_true rfl) (by rfl) (by cbv) ?_)
      intro js
      refine ⟨(_, _), ?_, js, rfl⟩
      exact ⟨0, rfl, by omega, hL0l, hLf.symm⟩
    rintro ⟨kk2, L⟩ js ⟨j2, hkk2, hj2, hLl, hPS⟩
    have hkk2 : kk2 = (j2 : Int) := hkk2
    have htj2 : vtoN kk2 = j2 := by rw [hkk2]; exact hto j2
    have hcA : j2 < 2 → vc .lss kk2 rlI = true := fun h => by rw [qc, lss_true, hrlI2]; omega
    have hcB : ¬ j2 < 2 → vc .lss kk2 rlI = false := fun h => by rw [qc, lss_false, hrlI2]; omega
    have hRA : j2 < 2 → 0 ≤ kk2 ∧ kk2 < (rl : Int) := fun h => by rw [hrl2]; omega
    have hRB : j2 < 2 → 0 ≤ kk2 ∧ kk2 < ((2 : Nat) : Int) := fun h => by omega
    obtain ⟨k5n, hk5⟩ : ∃ k5n : Int, k5n = ((j2 + 1 : Nat) : Int) := ⟨_, rfl⟩
    have ek5 : vb .add .i64 kk2 1 = k5n := by rw [qb, add_i64 (by omega) (by omega)]; omega
    have hmuA : j2 < 2 → 2 - k5n.toNat < 2 - kk2.toNat := fun h => by omega
    cbv
    rw [hofn]
    by_cases hltA : j2 < 2
    · obtain ⟨s, hs2⟩ : ∃ s, s = l.getD j2 0 := ⟨_, rfl⟩
      have hsb := hgl j2 (by omega)
      rw [← hs2] at hsb
      have hts : vtoN s = s.toNat := by rw [qtoN]
      have hPS2 := pd (L := L) (l := l) (g := g) (i := j2) (by omega) (by omega)
      rw [hPS, ← hs2] at hPS2
      obtain ⟨L2, hL2⟩ : ∃ L2, L2 = L.set s.toNat (g.getD j2 0) := ⟨_, rfl⟩
      have hL2l : L2.length = S := by rw [hL2]; simp [hLl]
      rw [← hL2] at hPS2
      have hvL : vln L = S := by rw [hlnq]; exact hLl
      have hsS : s.toNat < S := by omega
      have hsI : 0 ≤ s ∧ s < ((S : Nat) : Int) := by omega
      have hRA := hRA hltA
      have hRB := hRB hltA
      have hmuA := hmuA hltA
      rw [hcA hltA]
      cbv
      rw [htj2, hadd0, hgd, ← hs2, hts, show vgd [1, 1] j2 = g.getD j2 0 by rw [← hg7]; exact hgd g j2, hst, ← hL2]
      refine ⟨⟨hRA⟩, ⟨by rw [hvl]; omega⟩, ⟨by rw [hvl]; omega⟩, ⟨hRB⟩, ⟨by rw [hlg]; exact hltA⟩, ⟨hsI⟩, ⟨by rw [hvL]; exact hsS⟩, ?_⟩
      rw [ek5]
      refine Cv.fold ([111, 112, 113, 114, 115, 116, 117, 118, 119, 120, 121, 122, 123, 124, 125, 126]) 11 [3] (by exact Nat.le_refl _) (by exact Nat.le_of_ble_eq_true rfl) (by rfl) (by cbv) ?_
      intro js
      refine ⟨(_, _), ?_, js, rfl⟩
      exact ⟨⟨j2 + 1, hk5, hltA, hL2l, hPS2.symm⟩, hmuA⟩
    · have hj3 : j2 = 2 := by omega
      subst hj3
      have hLL : L = Lf := by
        rw [← hPS, List.drop_eq_nil_of_le (by omega), pn]
      rw [← hLL] at hk hlfC
      have hofL := hof L S hlfC.2.2.2
      rw [hLl] at hofL
      clear hLf hPS hLL htS hrep hL0 hL0l hlfC
      rw [hcB hltA]
      cbv
      refine call_con (ρ := [(10, .z)]) hofL ⟨by rfl, by rfl, by rfl, by cbv; exact ⟨view_refl _, trivial⟩⟩ ?_
      rintro v H R js5 ⟨rfl, rfl, rfl⟩
      generalize hW : WL L = W
      cbv
      subst hW
      exact ⟨[0, 1, 10, 11], .tup [.agg [.slice 2 .z 1 S S, .slice 3 .z 1 S S, .int .i64 0], .lit .i64 0], [.one 41 [.slice 1 .z 1 bl cap, .int .i64 pI2], .ro .u8 b, .ints 5 .u8 L, .ints 116 .u16 (WL L)], rfl, rfl, rfl, rfl, ⟨rfl, rfl, rfl, rfl, trivial⟩, rfl, p, pI2, hpI2, hp8, .inr (.inl ⟨L, S, hk, by rw [hLl]; rfl, rfl⟩)⟩
  · have hi1 : i = 3 := by omega
    have hk := k7 q l p hg (by rw [← hl1, ← hr1]; rfl) hND
    have ht1 : vtoN 2 = 2 := hto 2
    have e13 : vc .eql 2 3 = false := by rw [qc]; rfl
    have e10 : vc .eql 2 0 = false := by rw [qc]; rfl
    cbv
    rw [ht1]
    cbv
    refine ⟨⟨by decide⟩, ?_⟩
    rw [e13]
    cbv
    rw [e10]
    cbv
    obtain ⟨S, hS⟩ : ∃ S, S = size.toNat := ⟨_, rfl⟩
    have htS : vtoN size = S := by rw [qtoN]; exact hS.symm
    have hrep : vrep S 0 = List.replicate S 0 := by rw [qrep]
    obtain ⟨g, hg7⟩ : ∃ g : List Int, g = [1, 2, 2] := ⟨_, rfl⟩
    rw [← hS] at hk
    obtain ⟨Lf, hLf⟩ : ∃ Lf, Lf = PS (List.replicate S 0) l [1, 2, 2] := ⟨_, rfl⟩
    rw [← hLf] at hk
    rw [← hg7] at hLf
    obtain ⟨L0, hL0⟩ : ∃ L0, L0 = List.replicate S (0 : Int) := ⟨_, rfl⟩
    rw [← hL0] at hrep hLf
    have hL0l : L0.length = S := by rw [hL0]; simp
    have hgl7 : g.length = 3 := by rw [hg7]; rfl
    have hlg : vln [1, 2, 2] = 3 := by rw [hlnq]; rfl
    have hst : ∀ L i v, vst L i v = L.set i v := fun L i v => by rw [qst]
    have hrl2 : rl = 3 := by omega
    have hrlI2 : rlI = 3 := by rw [hrlI, hrl2]; rfl
    have hlfC := hfew _ _ hk
    refine ⟨⟨by omega⟩, ⟨by omega⟩, ⟨by omega⟩, ⟨by show size * 1 ≤ 281474976710656; omega⟩, ?_⟩
    rw [htS, hrep]
    refine loop_fam (α := Int × List Int) ([111, 112, 113, 114, 115, 116, 117, 118, 119, 120, 121, 122, 123, 124, 125, 126]) [3]
      (fun (kk, L) => [(18, .int .i64 kk)]) (fun (kk, L) => [(10, .ints 5 .u8 L)])
      (fun (kk, L) => ∃ j2 : Nat, kk = j2 ∧ j2 ≤ 3 ∧ L.length = S ∧ PS L (l.drop j2) (g.drop j2) = Lf) (fun (kk, L) => 3 - kk.toNat) hw hm ?_ ?_
    · refine Cv.genAt [18] [] (Cv.fold ([111, 112, 113, 114, 115, 116, 117, 118, 119, 120, 121, 122, 123, 124, 125, 126]) 11 [3] (by exact Nat.le_refl _) (by exact Nat.le_of_ble_eq_true rfl) (by rfl) (by cbv) ?_)
      intro js
      refine ⟨(_, _), ?_, js, rfl⟩
      exact ⟨0, rfl, by omega, hL0l, hLf.symm⟩
    rintro ⟨kk2, L⟩ js ⟨j2, hkk2, hj2, hLl, hPS⟩
    have hkk2 : kk2 = (j2 : Int) := hkk2
    have htj2 : vtoN kk2 = j2 := by rw [hkk2]; exact hto j2
    have hcA : j2 < 3 → vc .lss kk2 rlI = true := fun h => by rw [qc, lss_true, hrlI2]; omega
    have hcB : ¬ j2 < 3 → vc .lss kk2 rlI = false := fun h => by rw [qc, lss_false, hrlI2]; omega
    have hRA : j2 < 3 → 0 ≤ kk2 ∧ kk2 < (rl : Int) := fun h => by rw [hrl2]; omega
    have hRB : j2 < 3 → 0 ≤ kk2 ∧ kk2 < ((3 : Nat) : Int) := fun h => by omega
    obtain ⟨k5n, hk5⟩ : ∃ k5n : Int, k5n = ((j2 + 1 : Nat) : Int) := ⟨_, rfl⟩
    have ek5 : vb .add .i64 kk2 1 = k5n := by rw [qb, add_i64 (by omega) (by omega)]; omega
    have hmuA : j2 < 3 → 3 - k5n.toNat < 3 - kk2.toNat := fun h => by omega
    cbv
    rw [hofn]
    by_cases hltA : j2 < 3
    · obtain ⟨s, hs2⟩ : ∃ s, s = l.getD j2 0 := ⟨_, rfl⟩
      have hsb := hgl j2 (by omega)
      rw [← hs2] at hsb
      have hts : vtoN s = s.toNat := by rw [qtoN]
      have hPS2 := pd (L := L) (l := l) (g := g) (i := j2) (by omega) (by omega)
      rw [hPS, ← hs2] at hPS2
      obtain ⟨L2, hL2⟩ : ∃ L2, L2 = L.set s.toNat (g.getD j2 0) := ⟨_, rfl⟩
      have hL2l : L2.length = S := by rw [hL2]; simp [hLl]
      rw [← hL2] at hPS2
      have hvL : vln L = S := by rw [hlnq]; exact hLl
      have hsS : s.toNat < S := by omega
      have hsI : 0 ≤ s ∧ s < ((S : Nat) : Int) := by omega
      have hRA := hRA hltA
      have hRB := hRB hltA
      have hmuA := hmuA hltA
      rw [hcA hltA]
      cbv
      rw [htj2, hadd0, hgd, ← hs2, hts, show vgd [1, 2, 2] j2 = g.getD j2 0 by rw [← hg7]; exact hgd g j2, hst, ← hL2]
      refine ⟨⟨hRA⟩, ⟨by rw [hvl]; omega⟩, ⟨by rw [hvl]; omega⟩, ⟨hRB⟩, ⟨by rw [hlg]; exact hltA⟩, ⟨hsI⟩, ⟨by rw [hvL]; exact hsS⟩, ?_⟩
      rw [ek5]
      refine Cv.fold ([111, 112, 113, 114, 115, 116, 117, 118, 119, 120, 121, 122, 123, 124, 125, 126]) 11 [3] (by exact Nat.le_refl _) (by exact Nat.le_of_ble_eq_true rfl) (by rfl) (by cbv) ?_
      intro js
      refine ⟨(_, _), ?_, js, rfl⟩
      exact ⟨⟨j2 + 1, hk5, hltA, hL2l, hPS2.symm⟩, hmuA⟩
    · have hj3 : j2 = 3 := by omega
      subst hj3
      have hLL : L = Lf := by
        rw [← hPS, List.drop_eq_nil_of_le (by omega), pn]
      rw [← hLL] at hk hlfC
      have hofL := hof L S hlfC.2.2.2
      rw [hLl] at hofL
      clear hLf hPS hLL htS hrep hL0 hL0l hlfC
      rw [hcB hltA]
      cbv
      refine call_con (ρ := [(10, .z)]) hofL ⟨by rfl, by rfl, by rfl, by cbv; exact ⟨view_refl _, trivial⟩⟩ ?_
      rintro v H R js5 ⟨rfl, rfl, rfl⟩
      generalize hW : WL L = W
      cbv
      subst hW
      exact ⟨[0, 1, 10, 11], .tup [.agg [.slice 2 .z 1 S S, .slice 3 .z 1 S S, .int .i64 0], .lit .i64 0], [.one 41 [.slice 1 .z 1 bl cap, .int .i64 pI2], .ro .u8 b, .ints 5 .u8 L, .ints 116 .u16 (WL L)], rfl, rfl, rfl, rfl, ⟨rfl, rfl, rfl, rfl, trivial⟩, rfl, p, pI2, hpI2, hp8, .inr (.inl ⟨L, S, hk, by rw [hLl]; rfl, rfl⟩)⟩
  · have hi1 : i = 4 := by omega
    have hS4 : SY 4 q [] = .ok (l, p) := by rw [← hl1, ← hr1]; rfl
    have ht1 : vtoN 3 = 3 := hto 3
    have e13 : vc .eql 3 3 = true := by rw [qc]; rfl
    have e10 : vc .eql 3 0 = false := by rw [qc]; rfl
    have g1p := g1 p pI2 hp8 hpI2
    have hrl4 : rlI = (rl : Int) := hrlI
    cbv
    rw [ht1]
    cbv
    refine ⟨⟨by decide⟩, ?_⟩
    rw [e13]
    cbv
    refine call_con (ρ := [(0, .z), (1, .z)]) g1p ⟨by rfl, by rfl, by rfl, by cbv; exact ⟨view_refl _, trivial⟩⟩ ?_
    rintro v H R js9 ⟨rfl, q9, qI9, hq9, hq98, rfl, ⟨y, hgy, rfl⟩ | ⟨e, hge, he0, he1, rfl⟩⟩
    rotate_left
    · have hk := k4 q l p e hg hS4 hND hge
      have ene : vc .neq e 0 = true := by rw [qc, neq_true]; omega
      cbv
      rw [ene]
      cbv
      exact ⟨[0, 1], .tup [.agg [.val (.slice none 0 0), .val (.slice none 0 0), .lit .i64 0], .int .i64 e], [.one 41 [.slice 1 .z 1 bl cap, .int .i64 qI9], .ro .u8 b], rfl, rfl, rfl, rfl, ⟨rfl, rfl, trivial⟩, rfl, q9, qI9, hq9, hq98, .inr (.inr ⟨e, hk, he0, he1, rfl, rfl⟩)⟩
    have hk := k5 q l p y q9 hg hS4 hND hgy
    have hy2 := hy p y q9 hgy
    have hy3 : y = 0 ∨ y = 1 := by omega
    rcases hy3 with rfl | rfl
    · rw [gv0] at hk
      have hty : vtoN 0 = 0 := hto 0
      cbv
      rw [e00]
      cbv
      rw [hty]
      cbv
      refine ⟨⟨by decide⟩, ?_⟩
      rw [e10]
      cbv
      obtain ⟨S, hS⟩ : ∃ S, S = size.toNat := ⟨_, rfl⟩
      have htS : vtoN size = S := by rw [qtoN]; exact hS.symm
      have hrep : vrep S 0 = List.replicate S 0 := by rw [qrep]
      obtain ⟨g, hg7⟩ : ∃ g : List Int, g = [2, 2, 2, 2] := ⟨_, rfl⟩
      rw [← hS] at hk
      obtain ⟨Lf, hLf⟩ : ∃ Lf, Lf = PS (List.replicate S 0) l [2, 2, 2, 2] := ⟨_, rfl⟩
      rw [← hLf] at hk
      rw [← hg7] at hLf
      obtain ⟨L0, hL0⟩ : ∃ L0, L0 = List.replicate S (0 : Int) := ⟨_, rfl⟩
      rw [← hL0] at hrep hLf
      have hL0l : L0.length = S := by rw [hL0]; simp
      have hgl7 : g.length = 4 := by rw [hg7]; rfl
      have hlg : vln [2, 2, 2, 2] = 4 := by rw [hlnq]; rfl
      have hst : ∀ L i v, vst L i v = L.set i v := fun L i v => by rw [qst]
      have hrl2 : rl = 4 := by omega
      have hrlI2 : rlI = 4 := by rw [hrlI, hrl2]; rfl
      have hlfC := hfew _ _ hk
      refine ⟨⟨by omega⟩, ⟨by omega⟩, ⟨by omega⟩, ⟨by show size * 1 ≤ 281474976710656; omega⟩, ?_⟩
      rw [htS, hrep]
      refine loop_fam (α := Int × List Int) ([111, 112, 113, 114, 115, 116, 117, 118, 119, 120, 121, 122, 123, 124, 125, 126]) [3]
        (fun (kk, L) => [(18, .int .i64 kk)]) (fun (kk, L) => [(13, .ints 5 .u8 L)])
        (fun (kk, L) => ∃ j2 : Nat, kk = j2 ∧ j2 ≤ 4 ∧ L.length = S ∧ PS L (l.drop j2) (g.drop j2) = Lf) (fun (kk, L) => 4 - kk.toNat) hw hm ?_ ?_
      · refine Cv.genAt [18] [] (Cv.fold ([111, 112, 113, 114, 115, 116, 117, 118, 119, 120, 121, 122, 123, 124, 125, 126]) 14 [3] (by exact Nat.le_refl _) (by exact Nat.le_of_ble_eq_true rfl) (by rfl) (by cbv) ?_)
        intro js
        refine ⟨(_, _), ?_, js, rfl⟩
        exact ⟨0, rfl, by omega, hL0l, hLf.symm⟩
      rintro ⟨kk2, L⟩ js ⟨j2, hkk2, hj2, hLl, hPS⟩
      have hkk2 : kk2 = (j2 : Int) := hkk2
      have htj2 : vtoN kk2 = j2 := by rw [hkk2]; exact hto j2
      have hcA : j2 < 4 → vc .lss kk2 rlI = true := fun h => by rw [qc, lss_true, hrlI2]; omega
      have hcB : ¬ j2 < 4 → vc .lss kk2 rlI = false := fun h => by rw [qc, lss_false, hrlI2]; omega
      have hRA : j2 < 4 → 0 ≤ kk2 ∧ kk2 < (rl : Int) := fun h => by rw [hrl2]; omega
      have hRB : j2 < 4 → 0 ≤ kk2 ∧ kk2 < ((4 : Nat) : Int) := fun h => by omega
      obtain ⟨k5n, hk5⟩ : ∃ k5n : Int, k5n = ((j2 + 1 : Nat) : Int) := ⟨_, rfl⟩
      have ek5 : vb .add .i64 kk2 1 = k5n := by rw [qb, add_i64 (by omega) (by omega)]; omega
      have hmuA : j2 < 4 → 4 - k5n.toNat < 4 - kk2.toNat := fun h => by omega
      cbv
      rw [hofn]
      by_cases hltA : j2 < 4
      · obtain ⟨s, hs2⟩ : ∃ s, s = l.getD j2 0 := ⟨_, rfl⟩
        have hsb := hgl j2 (by omega)
        rw [← hs2] at hsb
        have hts : vtoN s = s.toNat := by rw [qtoN]
        have hPS2 := pd (L := L) (l := l) (g := g) (i := j2) (by omega) (by omega)
        rw [hPS, ← hs2] at hPS2
        obtain ⟨L2, hL2⟩ : ∃ L2, L2 = L.set s.toNat (g.getD j2 0) := ⟨_, rfl⟩
        have hL2l : L2.length = S := by rw [hL2]; simp [hLl]
        rw [← hL2] at hPS2
        have hvL : vln L = S := by rw [hlnq]; exact hLl
        have hsS : s.toNat < S := by omega
        have hsI : 0 ≤ s ∧ s < ((S : Nat) : Int) := by omega
        have hRA := hRA hltA
        have hRB := hRB hltA
        have hmuA := hmuA hltA
        rw [hcA hltA]
        cbv
        rw [htj2, hadd0, hgd, ← hs2, hts, show vgd [2, 2, 2, 2] j2 = g.getD j2 0 by rw [← hg7]; exact hgd g j2, hst, ← hL2]
        refine ⟨⟨hRA⟩, ⟨by rw [hvl]; omega⟩, ⟨by rw [hvl]; omega⟩, ⟨hRB⟩, ⟨by rw [hlg]; exact hltA⟩, ⟨hsI⟩, ⟨by rw [hvL]; exact hsS⟩, ?_⟩
        rw [ek5]
        refine Cv.fold ([111, 112, 113, 114, 115, 116, 117, 118, 119, 120, 121, 122, 123, 124, 125, 126]) 14 [3] (by exact Nat.le_refl _) (by exact Nat.le_of_ble_eq_true rfl) (by rfl) (by cbv) ?_
        intro js
        refine ⟨(_, _), ?_, js, rfl⟩
        exact ⟨⟨j2 + 1, hk5, hltA, hL2l, hPS2.symm⟩, hmuA⟩
      · have hj3 : j2 = 4 := by omega
        subst hj3
        have hLL : L = Lf := by
          rw [← hPS, List.drop_eq_nil_of_le (by omega), pn]
        rw [← hLL] at hk hlfC
        have hofL := hof L S hlfC.2.2.2
        rw [hLl] at hofL
        clear hLf hPS hLL htS hrep hL0 hL0l hlfC
        rw [hcB hltA]
        cbv
        refine call_con (ρ := [(13, .z)]) hofL ⟨by rfl, by rfl, by rfl, by cbv; exact ⟨view_refl _, trivial⟩⟩ ?_
        rintro v H R js5 ⟨rfl, rfl, rfl⟩
        generalize hW : WL L = W
        cbv
        subst hW
        exact ⟨[0, 1, 13, 14], .tup [.agg [.slice 2 .z 1 S S, .slice 3 .z 1 S S, .int .i64 0], .lit .i64 0], [.one 41 [.slice 1 .z 1 bl cap, .int .i64 qI9], .ro .u8 b, .ints 5 .u8 L, .ints 116 .u16 (WL L)], rfl, rfl, rfl, rfl, ⟨rfl, rfl, rfl, rfl, trivial⟩, rfl, q9, qI9, hq9, hq98, .inr (.inl ⟨L, S, hk, by rw [hLl]; rfl, rfl⟩)⟩
    · rw [gv1] at hk
      have hty : vtoN 1 = 1 := hto 1
      cbv
      rw [e00]
      cbv
      rw [hty]
      cbv
      refine ⟨⟨by decide⟩, ?_⟩
      rw [e10]
      cbv
      obtain ⟨S, hS⟩ : ∃ S, S = size.toNat := ⟨_, rfl⟩
      have htS : vtoN size = S := by rw [qtoN]; exact hS.symm
      have hrep : vrep S 0 = List.replicate S 0 := by rw [qrep]
      obtain ⟨g, hg7⟩ : ∃ g : List Int, g = [1, 2, 3, 3] := ⟨_, rfl⟩
      rw [← hS] at hk
      obtain ⟨Lf, hLf⟩ : ∃ Lf, Lf = PS (List.replicate S 0) l [1, 2, 3, 3] := ⟨_, rfl⟩
      rw [← hLf] at hk
      rw [← hg7] at hLf
      obtain ⟨L0, hL0⟩ : ∃ L0, L0 = List.replicate S (0 : Int) := ⟨_, rfl⟩
      rw [← hL0] at hrep hLf
      have hL0l : L0.length = S := by rw [hL0]; simp
      have hgl7 : g.length = 4 := by rw [hg7]; rfl
      have hlg : vln [1, 2, 3, 3] = 4 := by rw [hlnq]; rfl
      have hst : ∀ L i v, vst L i v = L.set i v := fun L i v => by rw [qst]
      have hrl2 : rl = 4 := by omega
      have hrlI2 : rlI = 4 := by rw [hrlI, hrl2]; rfl
      have hlfC := hfew _ _ hk
      refine ⟨⟨by omega⟩, ⟨by omega⟩, ⟨by omega⟩, ⟨by show size * 1 ≤ 281474976710656; omega⟩, ?_⟩
      rw [htS, hrep]
      refine loop_fam (α := Int × List Int) ([111, 112, 113, 114, 115, 116, 117, 118, 119, 120, 121, 122, 123, 124, 125, 126]) [3]
        (fun (kk, L) => [(18, .int .i64 kk)]) (fun (kk, L) => [(13, .ints 5 .u8 L)])
        (fun (kk, L) => ∃ j2 : Nat, kk = j2 ∧ j2 ≤ 4 ∧ L.length = S ∧ PS L (l.drop j2) (g.drop j2) = Lf) (fun (kk, L) => 4 - kk.toNat) hw hm ?_ ?_
      · refine Cv.genAt [18] [] (Cv.fold ([111, 112, 113, 114, 115, 116, 117, 118, 119, 120, 121, 122, 123, 124, 125, 126]) 14 [3] (by exact Nat.le_refl _) (by exact Nat.le_of_ble_eq_true rfl) (by rfl) (by cbv) ?_)
        intro js
        refine ⟨(_, _), ?_, js, rfl⟩
        exact ⟨0, rfl, by omega, hL0l, hLf.symm⟩
      rintro ⟨kk2, L⟩ js ⟨j2, hkk2, hj2, hLl, hPS⟩
      have hkk2 : kk2 = (j2 : Int) := hkk2
      have htj2 : vtoN kk2 = j2 := by rw [hkk2]; exact hto j2
      have hcA : j2 < 4 → vc .lss kk2 rlI = true := fun h => by rw [qc, lss_true, hrlI2]; omega
      have hcB : ¬ j2 < 4 → vc .lss kk2 rlI = false := fun h => by rw [qc, lss_false, hrlI2]; omega
      have hRA : j2 < 4 → 0 ≤ kk2 ∧ kk2 < (rl : Int) := fun h => by rw [hrl2]; omega
      have hRB : j2 < 4 → 0 ≤ kk2 ∧ kk2 < ((4 : Nat) : Int) := fun h => by omega
      obtain ⟨k5n, hk5⟩ : ∃ k5n : Int, k5n = ((j2 + 1 : Nat) : Int) := ⟨_, rfl⟩
      have ek5 : vb .add .i64 kk2 1 = k5n := by rw [qb, add_i64 (by omega) (by omega)]; omega
      have hmuA : j2 < 4 → 4 - k5n.toNat < 4 - kk2.toNat := fun h => by omega
      cbv
      rw [hofn]
      by_cases hltA : j2 < 4
      · obtain ⟨s, hs2⟩ : ∃ s, s = l.getD j2 0 := ⟨_, rfl⟩
        have hsb := hgl j2 (by omega)
        rw [← hs2] at hsb
        have hts : vtoN s = s.toNat := by rw [qtoN]
        have hPS2 := pd (L := L) (l := l) (g := g) (i := j2) (by omega) (by omega)
        rw [hPS, ← hs2] at hPS2
        obtain ⟨L2, hL2⟩ : ∃ L2, L2 = L.set s.toNat (g.getD j2 0) := ⟨_, rfl⟩
        have hL2l : L2.length = S := by rw [hL2]; simp [hLl]
        rw [← hL2] at hPS2
        have hvL : vln L = S := by rw [hlnq]; exact hLl
        have hsS : s.toNat < S := by omega
        have hsI : 0 ≤ s ∧ s < ((S : Nat) : Int) := by omega
        have hRA := hRA hltA
        have hRB := hRB hltA
        have hmuA := hmuA hltA
        rw [hcA hltA]
        cbv
        rw [htj2, hadd0, hgd, ← hs2, hts, show vgd [1, 2, 3, 3] j2 = g.getD j2 0 by rw [← hg7]; exact hgd g j2, hst, ← hL2]
        refine ⟨⟨hRA⟩, ⟨by rw [hvl]; omega⟩, ⟨by rw [hvl]; omega⟩, ⟨hRB⟩, ⟨by rw [hlg]; exact hltA⟩, ⟨hsI⟩, ⟨by rw [hvL]; exact hsS⟩, ?_⟩
        rw [ek5]
        refine Cv.fold ([111, 112, 113, 114, 115, 116, 117, 118, 119, 120, 121, 122, 123, 124, 125, 126]) 14 [3] (by exact Nat.le_refl _) (by exact Nat.le_of_ble_eq_true rfl) (by rfl) (by cbv) ?_
        intro js
        refine ⟨(_, _), ?_, js, rfl⟩
        exact ⟨⟨j2 + 1, hk5, hltA, hL2l, hPS2.symm⟩, hmuA⟩
      · have hj3 : j2 = 4 := by omega
        subst hj3
        have hLL : L = Lf := by
          rw [← hPS, List.drop_eq_nil_of_le (by omega), pn]
        rw [← hLL] at hk hlfC
        have hofL := hof L S hlfC.2.2.2
        rw [hLl] at hofL
        clear hLf hPS hLL htS hrep hL0 hL0l hlfC
        rw [hcB hltA]
        cbv
        refine call_con (ρ := [(13, .z)]) hofL ⟨by rfl, by rfl, by rfl, by cbv; exact ⟨view_refl _, trivial⟩⟩ ?_
        rintro v H R js5 ⟨rfl, rfl, rfl⟩
        generalize hW : WL L = W
        cbv
        subst hW
        exact ⟨[0, 1, 13, 14], .tup [.agg [.slice 2 .z 1 S S, .slice 3 .z 1 S S, .int .i64 0], .lit .i64 0], [.one 41 [.slice 1 .z 1 bl cap, .int .i64 qI9], .ro .u8 b, .ints 5 .u8 L, .ints 116 .u16 (WL L)], rfl, rfl, rfl, rfl, ⟨rfl, rfl, rfl, rfl, trivial⟩, rfl, q9, qI9, hq9, hq98, .inr (.inl ⟨L, S, hk, by rw [hLl]; rfl, rfl⟩)⟩
end Go.Proofs.Ytkkddgdcmdnnmaa
