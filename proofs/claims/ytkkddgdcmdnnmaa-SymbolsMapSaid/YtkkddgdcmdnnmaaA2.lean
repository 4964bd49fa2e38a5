import Derived.Test.YtkkddgdcmdnnmaaA1
import Derived.Test.YtkkddgdcmdnnmaaED
import Derived.Test.YtkkddgdcmdnnmaaEC
set_option linter.unusedVariables false
set_option linter.unusedSimpArgs false
namespace Go.Proofs.Ytkkddgdcmdnnmaa
open Go Go.Sx Go.Proofs
def Mn (l : List Int) (i : Nat) (v : List Int) : Prop := v.length = 16 ∧ ∀ k : Nat, k < 16 → v.getD k 0 = cn l k i
theorem getD_rep0 (m k : Nat) : (List.replicate m (0 : Int)).getD k 0 = 0 := by
  by_cases h : k < m <;> simp [List.getD_eq_getElem?_getD, List.getElem?_replicate, h]
theorem Mn.zero (l : List Int) : Mn l 0 (List.replicate 16 0) := by
  refine ⟨by simp, fun k hk => ?_⟩
  rw [getD_rep0]
  rfl
theorem Mn.step {l v : List Int} {i x : Nat} (h : Mn l i v) (hx : l.getD i 0 = x) (h16 : x < 16) : Mn l (i + 1) (v.set x (v.getD x 0 + 1)) := by
  refine ⟨by simp [h.1], fun k hk => ?_⟩
  have h2 := h.2 k hk
  simp only [cn, hx]
  by_cases e : k = x
  · subst e
    rw [if_pos rfl, ← h2]
    simp [List.getD_eq_getElem?_getD, List.getElem?_set, h.1, hk]
  · rw [if_neg (by omega), ← h2]
    simp [List.getD_eq_getElem?_getD, List.getElem?_set, Ne.symm e]
set_option maxRecDepth 10000
set_option maxHeartbeats 40000000
theorem word_con (l b : List Int) (p cap cap2 : Nat) (acc hv ai : Int) (hR : Rt l) (hby : ∀ x ∈ b, isByte x) (hl : b.length ≤ 2 ^ 50) (hs : RS b p acc hv ai) (hp : p ≤ 8 * b.length) :
    Con Try.prog 60 [.ptr 0 .z 4 0, .slice 4 .z 1 l.length cap2] [(.one 81 [.fn 39 [.ptr 1 .z 1 0, .ptr 2 .z 1 0], .int .u64 (acc), .int .i64 (hv), .fn 40 [.ptr 2 .z 1 0, .ptr 1 .z 1 0]]), .one 3 [.int .i64 ai], .one 22 [.slice 3 .z 1 b.length cap], .ro .u8 b, .ro .u8 l]
      (fun v H R => ∃ acc2 hv2 ai2 s e, ∃ q, v = .tup [.int .i64 s, .int .i64 e] ∧ RS b q acc2 hv2 ai2 ∧ Dec l b p s e q ∧ R = [] ∧
        H = [(.one 81 [.fn 39 [.ptr 1 .z 1 0, .ptr 2 .z 1 0], .int .u64 (acc2), .int .i64 (hv2), .fn 40 [.ptr 2 .z 1 0, .ptr 1 .z 1 0]]), .one 3 [.int .i64 ai2], .one 22 [.slice 3 .z 1 b.length cap], .ro .u8 b, .ro .u8 l]) := by
  have hrd := fun pos acc hv ai h => rbit_con b pos cap acc hv ai hby hl h
  refine con_gen (con_cut 5 (by simp) (con_drop (con_walk hmix fn60 ?_)))
  intro vb vc vw vtoN vofN vaddN vsubN vmaxI vminI vcutN vgd vst vln vrep vsub vonto vsplice vstrEq vbyteV vnotB veqB hw qb qc qw qtoN qofN qaddN qsubN qmaxI qminI qcutN qgd qst qln qrep qsub qonto qsplice qstrEq qbyteV qnotB qeqB
  have hm := hmix; generalize Try.prog = P at *
  have hn1 := hR.n1
  have hu8 := hR.u8
  have hl15 := hR.l15
  have hbt := bt_range b
  have hxr := xv_range b p
  have hxs : ∀ L, xv b p (L + 1) = 2 * xv b p L + bt b (p + L) := fun _ => rfl
  have hx0 : xv b p 0 = 0 := rfl
  have hxt := kp_top (b := b) hR p
  have hk0 : kp l l.length 0 = 0 := rfl
  have hks : ∀ L, kp l l.length (L + 1) = 2 * kp l l.length L + cn l (L + 1 : Nat) l.length := fun _ => rfl
  have hkm := kp_mono l l.length
  have hkp := kp_nonneg l l.length
  have hc0 : ∀ k, cn l k 0 = 0 := fun _ => rfl
  have hcs : ∀ k i, cn l k (i + 1) = cn l k i + (if l.getD i 0 = k then 1 else 0) := fun _ _ => rfl
  have hcr := cn_range l
  have hm0 := Mn.zero l
  have hms := fun i v x => @Mn.step l v i x
  have hml : ∀ i v, Mn l i v → v.length = 16 := fun i v h => h.1
  have hmg : ∀ i v, Mn l i v → ∀ k : Nat, k < 16 → v.getD k 0 = cn l k i := fun i v h => h.2
  have hD1 : ∀ L i : Nat, 1 ≤ L → L ≤ 15 → p + L ≤ 8 * b.length → (∀ j, j < L → kp l l.length j ≤ xv b p j) → xv b p L < kp l l.length L → i < l.length → l.getD i 0 = L → cn l L i = xv b p L - st l L → Dec l b p i 0 (p + L) :=
    fun L i h1 h2 h3 h4 h5 h6 h7 h8 => .inl ⟨L, i, h1, h2, h3, h4, h5, h6, h7, h8, rfl, rfl, rfl⟩
  have hD2 : ∀ L : Nat, L ≤ 14 → p + L = 8 * b.length → (∀ j, j ≤ L → kp l l.length j ≤ xv b p j) → Dec l b p 0 10 (p + L) := fun L h1 h2 h3 => .inr ⟨L, h1, h2, h3, rfl, rfl, rfl⟩
  have hst : ∀ L, st l L = 2 * kp l l.length (L - 1) := fun _ => rfl
  generalize Dec l b p = DEC at *
  generalize st l = ST at *
  generalize xv b p = XV at *
  generalize bt b = BT at *
  generalize kp l l.length = KP at *
  generalize cn l = CN at *
  generalize Mn l = MN at *
  generalize RS b = RSb at *
  generalize hT : 8 * b.length = T at *
  generalize b.length = lb at *
  generalize hn : l.length = n at *
  have hto : ∀ i : Nat, vtoN (i : Int) = i := fun i => by simp only [qtoN, Int.toNat_natCast]
  have hadd0 : ∀ i, vaddN 0 i = i := fun i => by simp only [qaddN, Nat.zero_add]
  have hvl : ∀ l, vln l = l.length := fun l => by simp only [qln]
  have hvgd : ∀ l i, vgd l i = l.getD i 0 := fun l i => by simp only [qgd]
  have hvst : ∀ l i x, vst l i x = l.set i x := fun l i x => by simp only [qst]
  have hrep : ∀ n x, vrep n x = List.replicate n x := fun n x => by simp only [qrep]
  cbv
  refine loop_fam (α := Int × List Int) ([8] ++ [20, 21, 22, 23, 24, 25, 26, 27, 28]) [] (fun (k, _) => [(19, .int .i64 k)]) (fun (_, v) => [(5, .ints 131 .i64 v)])
    (fun (k, v) => ∃ i : Nat, k = i ∧ i ≤ n ∧ MN i v) (fun (k, _) => n - k.toNat) hw hm ?_ ?_
  · refine Cv.genAt [19] [5] (Cv.fold ([8] ++ [20, 21, 22, 23, 24, 25, 26, 27, 28]) 6 [] (by exact Nat.le_refl _) (by exact Nat.le_of_ble_eq_true rfl) (by rfl) (by cbv) ?_)
    intro js
    refine ⟨(_, _), ?_, js, rfl⟩
    exact ⟨0, rfl, by omega, by rw [hrep]; exact hm0⟩
  · rintro ⟨k, v⟩ js ⟨i, hk, hi, hv⟩
    cbv
    split
    · rename_i hlt
      have hlt : i < n := by rw [qc, lss_true] at hlt; simp only [qofN] at hlt; simp only [nc] at *; omega
      have hti : vtoN k = i := by rw [hk]; exact hto i
      have hinR : 0 ≤ k ∧ k < (n : Int) := by simp only [nc] at *; omega
      obtain ⟨k1, hk1⟩ : ∃ k1 : Int, k1 = ((i + 1 : Nat) : Int) := ⟨_, rfl⟩
      have ek : vb .add .i64 k 1 = k1 := by simp only [nc] at *; rw [qb, add_i64 (by omega) (by omega)]; omega
      have hmu : ∀ _ : Unit, n - k1.toNat < n - k.toNat := fun _ => by simp only [nc] at *; omega
      have hu := hu8 i
      have h15 := hl15 i
      have hvl1 := hvl l
      have hvl2 := hvl v
      have hv16 := hml i v hv
      obtain ⟨x, hx⟩ : ∃ x : Nat, l.getD i 0 = x := ⟨(l.getD i 0).toNat, by omega⟩
      have hx16 : x < 16 := by omega
      have hvx := hmg i v hv x hx16
      have hcx := hcr x i
      have hstep := hms i v x hv hx (by omega)
      rw [← hvst] at hstep
      obtain ⟨xI, hxI⟩ : ∃ xI : Int, xI = x := ⟨_, rfl⟩
      have htx : vtoN xI = x := by rw [hxI]; exact hto x
      obtain ⟨y, hy⟩ : ∃ y : Int, y = v.getD x 0 := ⟨_, rfl⟩
      have ey : vb .add .i64 y 1 = y + 1 := by simp only [nc] at *; rw [qb, add_i64 (by omega) (by omega)]
      rw [← hxI] at hx
      have hinX : 0 ≤ xI ∧ xI < (16 : Int) := by omega
      cbv
      rw [hti, hadd0, hvgd, hx]
      refine ⟨⟨hinR⟩, ⟨by omega⟩, ⟨by omega⟩, ?_⟩
      rw [htx, hvgd, ← hy, ey, ek]
      rw [← hy] at hstep
      have hlx : x < vln v := by omega
      refine ⟨⟨hinX⟩, ⟨hlx⟩, ⟨hinX⟩, ⟨hlx⟩, ?_⟩
      refine Cv.fold ([8] ++ [20, 21, 22, 23, 24, 25, 26, 27, 28]) 6 [] (by exact Nat.le_refl _) (by exact Nat.le_of_ble_eq_true rfl) (by rfl) (by cbv) ?_
      intro js
      refine ⟨(_, _), ?_, js, rfl⟩
      exact ⟨⟨i + 1, hk1, hlt, hstep⟩, hmu ()⟩
    · rename_i hge
      have hin : i = n := by rw [qc, lss_false] at hge; simp only [qofN] at hge; simp only [nc] at *; omega
      subst hin
      have hv16 := hml i v hv
      have hmv := hmg i v hv
      have hvl2 := hvl v
      have hvl1 := hvl l
      clear hm0 hms hml hmg hv
      cbv
      refine loop_fam (α := Int × Int × Int × Int × Int × Int) ([12, 13, 14, 15, 16] ++ [29, 30, 31, 32, 33, 34, 35, 36, 37, 38, 39, 40, 41, 42, 43, 44, 45, 46, 47, 48, 49, 50, 51, 52, 53, 54, 55, 56, 57, 58, 59, 60, 61, 62, 63, 64, 65, 66, 67, 68, 69, 70, 71, 72, 73, 74, 75, 76, 77, 78, 79]) [] (fun (k, x, f, _, _, _) => [(11, .int .i64 k), (9, .int .i64 x), (10, .int .i64 f)])
        (fun (_, _, _, acc, hv, ai) => [(0, .one 81 [.fn 39 [.ptr 1 .z 1 0, .ptr 2 .z 1 0], .int .u64 acc, .int .i64 hv, .fn 40 [.ptr 2 .z 1 0, .ptr 1 .z 1 0]]), (1, .one 3 [.int .i64 ai])])
        (fun (k, x, f, acc, hv, ai) => ∃ L : Nat, k = L ∧ 1 ≤ L ∧ L ≤ 16 ∧ x = XV (L - 1) ∧ f = KP (L - 1) ∧ p + (L - 1) ≤ T ∧ (∀ j, j < L → KP j ≤ XV j) ∧ RSb (p + (L - 1)) acc hv ai) (fun (k, _) => 16 - k.toNat) hw hm ?_ ?_
      · refine Cv.genAt [11, 9, 10] [0, 1] (Cv.fold ([12, 13, 14, 15, 16] ++ [29, 30, 31, 32, 33, 34, 35, 36, 37, 38, 39, 40, 41, 42, 43, 44, 45, 46, 47, 48, 49, 50, 51, 52, 53, 54, 55, 56, 57, 58, 59, 60, 61, 62, 63, 64, 65, 66, 67, 68, 69, 70, 71, 72, 73, 74, 75, 76, 77, 78, 79]) 6 [] (by exact Nat.le_refl _) (by exact Nat.le_of_ble_eq_true rfl) (by rfl) (by cbv) ?_)
        intro js
        refine ⟨(_, _, _, _, _, _), ?_, js, rfl⟩
        exact ⟨1, rfl, by omega, by omega, hx0.symm, hk0.symm, hp, fun j hj => by (have h0 : j = 0 := by omega); subst h0; omega, hs⟩
      · rintro ⟨k, x, f, acc, hv, ai⟩ js ⟨L, hk, hL1, hL2, hx, hf, hpT, hj, hrs⟩
        cbv
        split
        · rename_i hlt
          have hlt : L ≤ 15 := by rw [qc, leq_eq] at hlt; simp only [decide_eq_true_eq] at hlt; simp only [nc] at *; omega
          have hrd1 := hrd (p + (L - 1)) acc hv ai hrs
          cbv
          refine call_con (ρ := [(0, .z), (1, .z), (2, .z), (3, .z)]) hrd1 ⟨by rfl, by rfl, by rfl, by cbv; exact ⟨⟨⟨by omega, fun i _ => by rw [Nat.zero_add]⟩⟩, trivial⟩⟩ ?_
          rintro v H R js2 ⟨acc2, hv2, ai2, y, e, pos2, rfl, hrs2, hcase, rfl, rfl⟩
          cbv
          have hne0 : vc .neq 0 0 = false := by rw [qc]; rfl
          have hne1 : vc .neq 10 0 = true := by rw [qc]; rfl
          rcases hcase with ⟨rfl, hp1, hy, rfl⟩ | ⟨rfl, hp1, rfl⟩
          rotate_left
          · rw [hne1]
            cbv
            exact ⟨acc2, hv2, ai2, 0, 10, _, rfl, hrs2, hD2 (L - 1) (by omega) (by omega) (fun j h => hj j (by omega)), rfl, rfl⟩
          rw [hne0]
          cbv
          obtain ⟨M, rfl⟩ : ∃ M, L = M + 1 := ⟨L - 1, by omega⟩
          simp only [nc] at hk
          simp only [Nat.add_sub_cancel] at hx hf hpT hrs hy hrs2 hp1
          have hxL := hxs M
          have hkL := hks M
          have hstL := hst (M + 1)
          simp only [Nat.add_sub_cancel] at hstL
          have hb1 := hbt (p + M)
          have hxr1 := hxr (M + 1)
          have hxr0 := hxr M
          have hj0 := hj M (by omega)
          have hkp0 := hkp M
          simp only [nc] at hkL
          rw [← hk] at hkL
          have hcr1 := hcr k i
          have hpw : (2 : Int) ^ (M + 1) ≤ 2 ^ 15 := pow_up hlt
          have hpw0 : (2 : Int) ^ M ≤ 2 ^ 15 := pow_up (by omega)
          obtain ⟨x1, hx1⟩ : ∃ x1, x1 = XV (M + 1) := ⟨_, rfl⟩
          obtain ⟨f1, hf1⟩ : ∃ f1, f1 = ST (M + 1) := ⟨_, rfl⟩
          obtain ⟨d1, hd1⟩ : ∃ d1, d1 = x1 - f1 := ⟨_, rfl⟩
          obtain ⟨c1, hc1⟩ : ∃ c1, c1 = CN k i := ⟨_, rfl⟩
          obtain ⟨x2, hx2⟩ : ∃ x2, x2 = 2 * x := ⟨_, rfl⟩
          have em1 : vb .mul .i64 2 x = x2 := by rw [qb, mul_i64 (by omega) (by omega)]; omega
          have ew1 : vw .i64 y = y := by rw [qw]; exact wrap_i64 (by omega) (by omega)
          have ea1 : vb .add .i64 x2 y = x1 := by rw [qb, add_i64 (by omega) (by omega)]; omega
          have em2 : vb .mul .i64 2 f = f1 := by rw [qb, mul_i64 (by omega) (by omega)]; omega
          have es1 : vb .sub .i64 x1 f1 = d1 := by rw [qb, sub_i64 (by omega) (by omega)]; omega
          have htk : vtoN k = M + 1 := by rw [hk]; exact hto _
          have hgk : v.getD (M + 1) 0 = c1 := by have := hmv (M + 1) (by omega); simp only [nc] at this; rw [this, hc1, hk]
          have hinK : 0 ≤ k ∧ k < (16 : Int) := by omega
          have hlk : M + 1 < vln v := by omega
          have hmu : ∀ k1 : Int, k1 = ((M + 1 + 1 : Nat) : Int) → ∀ _ : Unit, 16 - k1.toNat < 16 - k.toNat := by intro k1 h _; omega
          obtain ⟨k1, hk1⟩ : ∃ k1 : Int, k1 = ((M + 1 + 1 : Nat) : Int) := ⟨_, rfl⟩
          have hmu := hmu k1 hk1
          have ek : vb .add .i64 k 1 = k1 := by rw [qb, add_i64 (by omega) (by omega)]; omega
          rw [em1, ew1, ea1, em2, es1, htk, hvgd, hgk]
          refine ⟨⟨hinK⟩, ⟨hlk⟩, ?_⟩
          generalize hz : vc .geq d1 c1 = z
          cases z
          rotate_left
          · rw [qc, geq_eq] at hz
            simp only [decide_eq_true_eq] at hz
            obtain ⟨f2, hf2⟩ : ∃ f2, f2 = KP (M + 1) := ⟨_, rfl⟩
            have ea2 : vb .add .i64 f1 c1 = f2 := by rw [qb, add_i64 (by omega) (by omega)]; omega
            cbv
            rw [htk, hvgd, hgk, ea2, ek]
            refine ⟨⟨hinK⟩, ⟨hlk⟩, ?_⟩
            refine Cv.fold ([12, 13, 14, 15, 16] ++ [29, 30, 31, 32, 33, 34, 35, 36, 37, 38, 39, 40, 41, 42, 43, 44, 45, 46, 47, 48, 49, 50, 51, 52, 53, 54, 55, 56, 57, 58, 59, 60, 61, 62, 63, 64, 65, 66, 67, 68, 69, 70, 71, 72, 73, 74, 75, 76, 77, 78, 79]) 6 [] (by exact Nat.le_refl _) (by exact Nat.le_of_ble_eq_true rfl) (by rfl) (by cbv) ?_
            intro js
            refine ⟨(_, _, _, _, _, _), ?_, js, rfl⟩
            refine ⟨⟨M + 1 + 1, hk1, by omega, by omega, hx1, hf2, by simp only [Nat.add_sub_cancel]; omega, fun j h => ?_, hrs2⟩, hmu ()⟩
            by_cases hjM : j = M + 1
            · subst hjM; omega
            · exact hj j (by omega)
          · rw [qc, geq_eq] at hz
            simp only [decide_eq_false_iff_not] at hz
            have hp2 : p + (M + 1) ≤ T := by omega
            have hxk : XV (M + 1) < KP (M + 1) := by omega
            have hM15 : M + 1 ≤ 15 := hlt
            have hD1k : ∀ u, u < i → l.getD u 0 = k → CN k u = XV (M + 1) - ST (M + 1) → DEC u 0 (p + (M + 1)) := fun u h1 h2 h3 => by
              subst hk; exact hD1 (M + 1) u (by omega) hM15 hp2 hj hxk h1 h2 h3
            cbv
            refine loop_fam (α := Int × Int) ([15, 16] ++ [66, 67, 68, 69, 70, 71, 72, 73, 74, 75, 76, 77, 78, 79]) [] (fun (q, d) => [(65, .int .i64 q), (14, .int .i64 d)]) (fun _ => [])
              (fun (q, d) => ∃ u : Nat, q = u ∧ u ≤ i ∧ d = d1 - CN k u ∧ 0 ≤ d) (fun (q, _) => i - q.toNat) hw hm ?_ ?_
            · refine Cv.genAt [65, 14] [] (Cv.fold ([15, 16] ++ [66, 67, 68, 69, 70, 71, 72, 73, 74, 75, 76, 77, 78, 79]) 6 [] (by exact Nat.le_refl _) (by exact Nat.le_of_ble_eq_true rfl) (by rfl) (by cbv) ?_)
              intro js
              refine ⟨(_, _), ?_, js, rfl⟩
              have h00 := hc0 k
              exact ⟨0, rfl, by omega, by omega, by omega⟩
            · rintro ⟨q, d⟩ js3 ⟨u, hq, hu, hd, hd0⟩
              cbv
              split
              · rename_i hlt2
                have hlt2 : u < i := by rw [qc, lss_true] at hlt2; simp only [qofN] at hlt2; simp only [nc] at *; omega
                have htq : vtoN q = u := by rw [hq]; exact hto u
                have hinR : 0 ≤ q ∧ q < (i : Int) := by simp only [nc] at *; omega
                obtain ⟨q1, hq1⟩ : ∃ q1 : Int, q1 = ((u + 1 : Nat) : Int) := ⟨_, rfl⟩
                have eq1 : vb .add .i64 q 1 = q1 := by simp only [nc] at *; rw [qb, add_i64 (by omega) (by omega)]; omega
                have hmu2 : ∀ _ : Unit, i - q1.toNat < i - q.toNat := fun _ => by simp only [nc] at *; omega
                have hxu := hu8 u
                have hxu1 := hl15 u
                have hcu := hcs k u
                have hcru := hcr k u
                have hlu : u < vln l := by omega
                have hfin : l.getD u 0 = k → d = 0 → DEC u 0 (p + (M + 1)) := fun h1 h2 => hD1k u hlt2 h1 (by omega)
                cbv
                rw [htq, hadd0, hvgd]
                refine ⟨⟨hinR⟩, ⟨hlu⟩, ⟨hlu⟩, ?_⟩
                generalize hxg : l.getD u 0 = g at *
                have ewg : vw .i64 g = g := by rw [qw]; exact wrap_i64 (by omega) (by omega)
                rw [ewg]
                generalize hz3 : vc .neq g k = z3
                cases z3
                rotate_left
                · rw [qc, neq_eq] at hz3
                  simp only [decide_eq_true_eq] at hz3
                  rw [if_neg (by omega)] at hcu
                  cbv
                  rw [eq1]
                  refine Cv.fold ([15, 16] ++ [66, 67, 68, 69, 70, 71, 72, 73, 74, 75, 76, 77, 78, 79]) 6 [] (by exact Nat.le_refl _) (by exact Nat.le_of_ble_eq_true rfl) (by rfl) (by cbv) ?_
                  intro js
                  refine ⟨(_, _), ?_, js, rfl⟩
                  exact ⟨⟨u + 1, hq1, hlt2, by omega, hd0⟩, hmu2 ()⟩
                · rw [qc, neq_eq] at hz3
                  simp only [decide_eq_false_iff_not, Decidable.not_not] at hz3
                  have hgM : g = k := hz3
                  have hfin := hfin hgM
                  rw [if_pos hgM] at hcu
                  cbv
                  generalize hz4 : vc .eql d 0 = z4
                  cases z4
                  rotate_left
                  · rw [qc, eql_true] at hz4
                    have hfin := hfin hz4
                    rw [← hq] at hfin
                    cbv
                    exact ⟨acc2, hv2, ai2, q, 0, _, rfl, hrs2, hfin, rfl, rfl⟩
                  · rw [qc, eql_false] at hz4
                    obtain ⟨d2, hd2⟩ : ∃ d2, d2 = d - 1 := ⟨_, rfl⟩
                    have ed2 : vb .sub .i64 d 1 = d2 := by rw [qb, sub_i64 (by omega) (by omega)]; omega
                    cbv
                    rw [ed2, eq1]
                    refine Cv.fold ([15, 16] ++ [66, 67, 68, 69, 70, 71, 72, 73, 74, 75, 76, 77, 78, 79]) 6 [] (by exact Nat.le_refl _) (by exact Nat.le_of_ble_eq_true rfl) (by rfl) (by cbv) ?_
                    intro js
                    refine ⟨(_, _), ?_, js, rfl⟩
                    exact ⟨⟨u + 1, hq1, hlt2, by rw [hd2, hd, hcu]; omega, by omega⟩, hmu2 ()⟩
              · rename_i hge
                have hui : u = i := by rw [qc, lss_false] at hge; simp only [qofN] at hge; simp only [nc] at *; omega
                rw [hui] at hd
                omega
        · rename_i hge
          have hL : L = 16 := by rw [qc, leq_eq] at hge; simp only [Bool.not_eq_true, decide_eq_false_iff_not] at hge; simp only [nc] at *; omega
          have := hj 15 (by omega)
          omega
end Go.Proofs.Ytkkddgdcmdnnmaa
namespace Go.Proofs.Ytkkddgdcmdnnmaa
open Go Go.Sx Go.Proofs
set_option maxRecDepth 10000
set_option maxHeartbeats 4000000
theorem Dec.whole {l b : List Int} {s e : Int} {q : Nat} (hb : b.length = 2) (h : Dec l b 0 s e q) : ∃ i : Nat, s = i ∧ i < l.length ∧ e = 0 ∧ l.getD i 0 = q ∧ 1 ≤ q ∧ q ≤ 15 := by
  rcases h with ⟨L, i, h1, h2, h3, h4, h5, h6, h7, h8, rfl, rfl, rfl⟩ | ⟨L, h1, h2, h3, rfl, rfl, rfl⟩
  · refine ⟨i, rfl, h6, rfl, ?_, by omega, by omega⟩
    rw [h7]; simp
  · omega
end Go.Proofs.Ytkkddgdcmdnnmaa
namespace Go.Proofs.Ytkkddgdcmdnnmaa
open Go Go.Sx Go.Proofs
set_option maxRecDepth 10000
set_option maxHeartbeats 4000000
theorem reading33_nil (trees size : Int) : Con Try.prog 33 [.val (.pointer none), .fn 34 [.ptr 0 .z 1 0, .ptr 1 .z 1 0, .ptr 2 .z 1 0]] [.one 33 [.val (.pointer none)], .one 3 [.int .i64 trees], .one 3 [.int .i64 size]]
    (fun v H R => v = .tup [.val (.slice none 0 0), .int .i64 1] ∧ H = [.one 33 [.val (.pointer none)], .one 3 [.int .i64 trees], .one 3 [.int .i64 size]] ∧ R = []) := by
  refine con_gen (con_cut 3 (by simp) (con_drop (con_walk hmix fn33 ?_)))
  intro vb vc vw vtoN vofN vaddN vsubN vmaxI vminI vcutN vgd vst vln vrep vsub vonto vsplice vstrEq vbyteV vnotB veqB hw qb qc qw qtoN qofN qaddN qsubN qmaxI qminI qcutN qgd qst qln qrep qsub qonto qsplice qstrEq qbyteV qnotB qeqB
  have hm := hmix; generalize Try.prog = P at *
  cbv
theorem map_nil (trees size : Int) : Con Try.prog 9 [.val (.pointer none), .int .i64 trees, .int .i64 size] [] (fun v H R => v = .tup [.val (.slice none 0 0), .int .i64 1] ∧ H = [] ∧ R = []) := by
  have g := reading33_nil trees size
  refine con_gen (con_cut 0 (by simp) (con_drop (con_walk hmix fn9 ?_)))
  intro vb vc vw vtoN vofN vaddN vsubN vmaxI vminI vcutN vgd vst vln vrep vsub vonto vsplice vstrEq vbyteV vnotB veqB hw qb qc qw qtoN qofN qaddN qsubN qmaxI qminI qcutN qgd qst qln qrep qsub qonto qsplice qstrEq qbyteV qnotB qeqB
  have hm := hmix; generalize Try.prog = P at *
  cbv
  refine call_con (ρ := [(0, .z), (1, .z), (2, .z)]) g ⟨by rfl, by rfl, by rfl, by cbv⟩ ?_
  rintro v H R js ⟨rfl, rfl, rfl⟩
  cbv
end Go.Proofs.Ytkkddgdcmdnnmaa
namespace Go.Proofs.Ytkkddgdcmdnnmaa
open Go Go.Sx Go.Proofs
set_option maxRecDepth 10000
set_option maxHeartbeats 4000000
def wbits : List Int := [1, 0, 0, 0, 1, 0, 1, 0, 0, 0, 0, 0, 1, 1, 0, 0, 1]
theorem wbits1 : putBits [] 1 2 = [1, 0] := rfl
theorem wbits2 : putBits [1, 0] 0 2 = [1, 0, 0, 0] := rfl
theorem wbits3 : putBits [1, 0, 0, 0] 5 8 = [1, 0, 0, 0, 1, 0, 1, 0, 0, 0, 0, 0] := rfl
theorem wbits4 : putBits [1, 0, 0, 0, 1, 0, 1, 0, 0, 0, 0, 0] 19 5 = wbits := rfl
theorem wbits_bit : ∀ x ∈ wbits, isBit x := by
  intro x hx
  simp only [wbits, List.mem_cons, List.not_mem_nil, or_false] at hx
  unfold isBit
  omega
theorem wk_pack : pack wbits = [81, 48, 1] := rfl
theorem wakes14_con : Con Try.prog 14 [] [] (fun v H R => v = .bool true ∧ H = [] ∧ R = []) := by
  have hbit : ∀ n, ∀ x ∈ wbits.take n, isBit x := fun n x hx => wbits_bit x (List.mem_of_mem_take hx)
  have p1 := bputA_con [] 0 1 2 (by omega) (fun b hb => by cases hb) (by decide)
  have p2 := fun c => bputA_con [1, 0] c 0 2 (by omega) (hbit 2) (by decide)
  have p3 := fun c => bputA_con [1, 0, 0, 0] c 5 8 (by omega) (hbit 4) (by decide)
  have p4 := fun c => bputA_con [1, 0, 0, 0, 1, 0, 1, 0, 0, 0, 0, 0] c 19 5 (by omega) (hbit 12) (by decide)
  have pb := fun c => bbytes_con wbits c (by decide)
  rw [wbits1] at p1
  rw [wbits2] at p2
  rw [wbits3] at p3
  rw [wbits4] at p4
  have hval : ∀ i n, bval (bitL (pack wbits)) i n = bval wbits i n := fun i n => bitL_pack wbits wbits_bit i n
  have hby : ∀ x ∈ pack wbits, isByte x := by
    rw [wk_pack]
    intro x hx
    simp only [List.mem_cons, List.not_mem_nil, or_false] at hx
    unfold isByte
    omega
  have hlen : (pack wbits).length = 3 := rfl
  have hnew := fun cap => rnew_con (pack wbits) cap (by rw [hlen]; decide)
  have hrd := fun cap => read7_con (pack wbits) 0 cap 0 0 0 hby (by rw [hlen]; decide) (RS.start _) (by rw [hlen]; decide) (by rw [hval]; rfl) (by rw [hval]; rfl) (by rw [hval]; rfl)
  have hct := fun cap acc hv ai h => count10_con (pack wbits) 12 cap acc hv ai hby (by rw [hlen]; decide) h (by rw [hlen]; decide) (by rw [hval]; rfl) (by rw [hval]; rfl) (by rw [hval]; rfl)
  generalize RS (pack wbits) (0 + 12) = RQ at *
  rw [hlen] at hnew hrd hct pb p4
  generalize RS (pack wbits) 12 = RQ' at *
  clear hval hby hlen hbit
  generalize pack wbits = K4 at *
  rw [show wbits.length = 17 from rfl] at pb p4
  rw [show (pack [1, 0] : List Int).length = 1 from rfl] at p1 p2
  rw [show (pack [1, 0, 0, 0] : List Int).length = 1 from rfl] at p2 p3
  rw [show (pack [1, 0, 0, 0, 1, 0, 1, 0, 0, 0, 0, 0] : List Int).length = 2 from rfl] at p3 p4
  rw [show (pack [] : List Int) = [] from rfl] at p1
  generalize pack [1, 0] = K1 at *
  generalize pack [1, 0, 0, 0] = K2 at *
  generalize pack [1, 0, 0, 0, 1, 0, 1, 0, 0, 0, 0, 0] = K3 at *
  simp only [List.length_cons, List.length_nil] at p1 p2 p3 p4
  have f23 := fn23
  refine con_gen (con_cut 0 (by simp) (con_drop (con_walk hmix fn14 ?_)))
  intro vb vc vw vtoN vofN vaddN vsubN vmaxI vminI vcutN vgd vst vln vrep vsub vonto vsplice vstrEq vbyteV vnotB veqB hw qb qc qw qtoN qofN qaddN qsubN qmaxI qminI qcutN qgd qst qln qrep qsub qonto qsplice qstrEq qbyteV qnotB qeqB
  have hm := hmix; generalize Try.prog = P at *
  have e00 : vc .eql 0 0 = true := by rw [qc]; rfl
  have e44 : vc .eql 4 4 = true := by rw [qc]; rfl
  have e55 : vc .eql 5 5 = true := by rw [qc]; rfl
  have ev0 : vofN 0 = 0 := by rw [qofN]; rfl
  cbv
  refine CallX.cv f23.go (Cv.nilB 0 0 5 .u8 (by rfl) (by cbv) (Cv.here ?_)) (by rfl)
  refine call_con (ρ := [(0, .z), (1, .z)]) p1 ⟨by rfl, by rfl, by rfl, by cbv; exact ⟨⟨rfl, trivial⟩, trivial⟩⟩ ?_
  rintro v H R js ⟨rfl, rfl, c1, rfl⟩
  cbv
  refine call_con (ρ := [(0, .z), (1, .z)]) (p2 c1) ⟨by rfl, by rfl, by rfl, by cbv⟩ ?_
  rintro v H R js2 ⟨rfl, rfl, c2, rfl⟩
  cbv
  refine call_con (ρ := [(0, .z), (1, .z)]) (p3 c2) ⟨by rfl, by rfl, by rfl, by cbv⟩ ?_
  rintro v H R js3 ⟨rfl, rfl, c3, rfl⟩
  cbv
  refine call_con (ρ := [(0, .z), (1, .z)]) (p4 c3) ⟨by rfl, by rfl, by rfl, by cbv⟩ ?_
  rintro v H R js4 ⟨rfl, rfl, c4, rfl⟩
  cbv
  refine call_con (ρ := [(0, .z), (1, .z)]) (pb c4) ⟨by rfl, by rfl, by rfl, by cbv⟩ ?_
  rintro v H R js5 ⟨rfl, c5, rfl, rfl⟩
  cbv
  refine call_con (ρ := [(2, .z)]) (hnew c5) ⟨by rfl, by rfl, by rfl, by cbv; exact ⟨view_refl _, trivial⟩⟩ ?_
  rintro v H R js6 ⟨rfl, rfl, c6, rfl⟩
  cbv
  refine call_con (ρ := [(6, .z), (5, .z), (4, .z), (3, .z)]) (hrd c6) ⟨by rfl, by rfl, by rfl, by cbv; exact ⟨view_refl _, trivial⟩⟩ ?_
  rintro v H R js7 ⟨rfl, rfl, acc, hv, ai, hRQ, rfl⟩
  cbv
  refine call_con (ρ := [(6, .z), (5, .z), (4, .z), (3, .z)]) (hct c6 acc hv ai hRQ) ⟨by rfl, by rfl, by rfl, by cbv; exact ⟨view_refl _, trivial⟩⟩ ?_
  rintro v H R js8 ⟨rfl, rfl, acc2, hv2, ai2, hRQ2, rfl⟩
  cbv
  rw [e00]
  cbv
  rw [e55]
  cbv
  rw [e00]
  cbv
  rw [e44]
  cbv
end Go.Proofs.Ytkkddgdcmdnnmaa
namespace Go.Proofs.Ytkkddgdcmdnnmaa
open Go Go.Sx Go.Proofs
set_option maxRecDepth 10000
set_option maxHeartbeats 4000000
def gt (b : List Int) (n p : Nat) : Except Int (Int × Nat) := if p + n ≤ 8 * b.length then .ok (bval (bitL b) p n, p + n) else .error 10
theorem gt_ok {b : List Int} {n p : Nat} {x : Int} {q : Nat} (h : gt b n p = .ok (x, q)) : 0 ≤ x ∧ x < 2 ^ n ∧ q = p + n ∧ p + n ≤ 8 * b.length ∧ x = bval (bitL b) p n := by
 unfold gt at h
 split at h
 ·simp only [Except.ok.injEq, Prod.mk.injEq] at h
  obtain ⟨rfl, rfl⟩ := h
  have := bval_bound (bitL b) (bitL_bit b) p n
  exact ⟨this.1, this.2, rfl, by assumption, rfl⟩
 ·cases h
theorem gt_err {b : List Int} {n p : Nat} {e : Int} (h : gt b n p = .error e) : e = 10 ∧ ¬ p + n ≤ 8 * b.length := by
 unfold gt at h
 split at h
 ·cases h
 ·simp only [Except.error.injEq] at h
  exact ⟨h.symm, by assumption⟩
def PostR {α : Type} (b : List Int) (r : Except Int (α × Nat)) (enc : α → SV) (B : Int → Int → Int → List SB) : SV → List SB → List Nat → Prop := fun v H R =>
 ∃ x q, r = .ok (x, q) ∧ v = enc x ∧ R = [] ∧ ∃ a h i, RS b q a h i ∧ H = B a h i
def PanR {α : Type} (r : Except Int (α × Nat)) (B : Int → Int → Int → List SB) : SV → List SB → List Nat → Prop := fun v H R =>
 ∃ e, r = .error e ∧ v = .iface 75 (.agg [.int .i64 e]) ∧ R = [] ∧ ∃ a h i, H = B a h i
theorem getX_con (b : List Int) (pos cap n : Nat) (acc hv ai : Int) (hby : ∀ x ∈ b, isByte x) (hl : b.length ≤ 2 ^ 50) (h : RS b pos acc hv ai) (hn : n ≤ 56) :
  ConX Try.prog 27 [.ptr 0 .z 4 0, .int .i64 n] [(.one 81 [.fn 39 [.ptr 1 .z 1 0, .ptr 2 .z 1 0], .int .u64 acc, .int .i64 hv, .fn 40 [.ptr 2 .z 1 0, .ptr 1 .z 1 0]]), .one 3 [.int .i64 ai], .one 22 [.slice 3 .z 1 b.length cap], .ro .u8 b] (PostR b (gt b n pos) (.int .i64) (fun a h i => [(.one 81 [.fn 39 [.ptr 1 .z 1 0, .ptr 2 .z 1 0], .int .u64 a, .int .i64 h, .fn 40 [.ptr 2 .z 1 0, .ptr 1 .z 1 0]]), .one 3 [.int .i64 i], .one 22 [.slice 3 .z 1 b.length cap], .ro .u8 b])) (PanR (gt b n pos) (fun a h i => [(.one 81 [.fn 39 [.ptr 1 .z 1 0, .ptr 2 .z 1 0], .int .u64 a, .int .i64 h, .fn 40 [.ptr 2 .z 1 0, .ptr 1 .z 1 0]]), .one 3 [.int .i64 i], .one 22 [.slice 3 .z 1 b.length cap], .ro .u8 b])) := by
 have hb := rbits_rs b pos cap n acc hv ai hby hl h
 have key : (rbE b pos n = 0 ∧ gt b n pos = .ok (rbX b pos n, rbP b pos n) ∧ 0 ≤ rbX b pos n ∧ rbX b pos n < 9223372036854775808) ∨ (rbE b pos n = 10 ∧ gt b n pos = .error 10) := by
  unfold rbE rbX rbP gt
  by_cases hp : pos + n ≤ 8 * b.length
  ·left
   have hr := bval_bound (bitL b) (bitL_bit b) pos n
   have h56 : (2 : Int) ^ n ≤ 2 ^ 56 := by
    have := Nat.pow_le_pow_right (n := 2) (by decide) hn
    exact_mod_cast this
   rw [show (2 : Int) ^ 56 = 72057594037927936 by decide] at h56
   rw [if_pos (by omega), if_pos (by omega), if_pos hp, if_pos (by omega), if_pos (by omega), Int.toNat_natCast]
   exact ⟨rfl, rfl, hr.1, by omega⟩
  ·right
   rw [if_pos (by omega), if_neg (by omega), if_neg hp]
   exact ⟨rfl, rfl⟩
 obtain ⟨r, hr⟩ : ∃ r, r = gt b n pos := ⟨_, rfl⟩
 rw [← hr] at key ⊢
 generalize rbX b pos n = x at *
 generalize rbE b pos n = e at *
 generalize hq : rbP b pos n = q at *
 obtain ⟨nI, hnI⟩ : ∃ nI : Int, nI = n := ⟨_, rfl⟩
 rw [← hnI] at hb ⊢
 refine conX_gen (conX_cut 4 (by simp) (conX_drop (conX_walk hmix fn27 ?_)))
 intro vb vc vw vtoN vofN vaddN vsubN vmaxI vminI vcutN vgd vst vln vrep vsub vonto vsplice vstrEq vbyteV vnotB veqB hw qb qc qw qtoN qofN qaddN qsubN qmaxI qminI qcutN qgd qst qln qrep qsub qonto qsplice qstrEq qbyteV qnotB qeqB
 have hm := hmix; generalize Try.prog = P at *
 generalize hRS : RS b = RQ at *
 obtain ⟨bl, hbl⟩ : ∃ bl, bl = b.length := ⟨_, rfl⟩
 rw [← hbl] at hb ⊢
 cbv
 refine call_con (ρ := [(0, .z), (1, .z), (2, .z), (3, .z)]) hb ⟨by rfl, by rfl, by rfl, by cbv; exact ⟨view_refl _, trivial⟩⟩ ?_
 rintro v H R js ⟨rfl, rfl, acc2, hv2, ai2, h2, rfl⟩
 cbv
 rcases key with ⟨rfl, hg, h0, h1⟩ | ⟨rfl, hg⟩
 ·have ez : vc .neq 0 0 = false := by rw [qc]; rfl
  have ewx : vw .i64 x = x := by rw [qw]; exact wrap_i64 (by omega) (by omega)
  rw [ez]
  cbv
  rw [ewx]
  exact ⟨x, q, hg, rfl, rfl, acc2, hv2, ai2, hRS ▸ h2, rfl⟩
 ·have ez : vc .neq 10 0 = true := by rw [qc]; rfl
  rw [ez]
  cbv
  exact ⟨10, hg, rfl, rfl, acc2, hv2, ai2, rfl⟩
theorem mustX_con (t : Bool) : ConX Try.prog 31 [.bool t] [] (fun v H R => t = true ∧ v = .tup [] ∧ H = [] ∧ R = []) (fun v H R => t = false ∧ v = .iface 75 (.agg [.int .i64 11]) ∧ H = [] ∧ R = []) := by
 refine conX_gen (conX_cut 0 (by simp) (conX_drop (conX_walk hmix fn31 ?_)))
 intro vb vc vw vtoN vofN vaddN vsubN vmaxI vminI vcutN vgd vst vln vrep vsub vonto vsplice vstrEq vbyteV vnotB veqB hw qb qc qw qtoN qofN qaddN qsubN qmaxI qminI qcutN qgd qst qln qrep qsub qonto qsplice qstrEq qbyteV qnotB qeqB
 have hm := hmix; generalize Try.prog = P at *
 have hnt : vnotB true = false := by rw [qnotB]; rfl
 have hnf : vnotB false = true := by rw [qnotB]; rfl
 cases t
 ·cbv
  rw [hnf]
  cbv
 ·cbv
  rw [hnt]
  cbv
def smR (b : List Int) (p : Nat) : Except Int (Int × Nat) :=
 match gt b 2 p with
 | .error e => .error e
 | .ok (x, q) => if x = 3 then (match gt b 1 q with
   | .error e => .error e
   | .ok (y, q2) => if y = 0 then .ok (2, q2) else (match gt b 1 q2 with
    | .error e => .error e
    | .ok (z, q3) => .ok (1 + 4 * z, q3)))
  else if x = 0 then .ok (0, q) else .ok (5 - x, q)
theorem smR_ok {b : List Int} {p q : Nat} {x : Int} (h : smR b p = .ok (x, q)) : 0 ≤ x ∧ x ≤ 5 := by
 unfold smR at h
 repeat' split at h
 all_goals first | (cases h; done) | skip
 all_goals simp only [Except.ok.injEq, Prod.mk.injEq] at h
 all_goals obtain ⟨rfl, rfl⟩ := h
 ·omega
 ·rename_i hg
  have := gt_ok hg
  have := this.2.1
  omega
 ·omega
 ·rename_i hg _ _
  have := gt_ok hg
  have := this.2.1
  omega
theorem smallX_con (b : List Int) (pos cap : Nat) (acc hv ai : Int) (hby : ∀ x ∈ b, isByte x) (hl : b.length ≤ 2 ^ 50) (h : RS b pos acc hv ai) :
  ConX Try.prog 57 [.ptr 0 .z 4 0] [(.one 81 [.fn 39 [.ptr 1 .z 1 0, .ptr 2 .z 1 0], .int .u64 acc, .int .i64 hv, .fn 40 [.ptr 2 .z 1 0, .ptr 1 .z 1 0]]), .one 3 [.int .i64 ai], .one 22 [.slice 3 .z 1 b.length cap], .ro .u8 b] (PostR b (smR b pos) (.int .u8) (fun a h i => [(.one 81 [.fn 39 [.ptr 1 .z 1 0, .ptr 2 .z 1 0], .int .u64 a, .int .i64 h, .fn 40 [.ptr 2 .z 1 0, .ptr 1 .z 1 0]]), .one 3 [.int .i64 i], .one 22 [.slice 3 .z 1 b.length cap], .ro .u8 b])) (PanR (smR b pos) (fun a h i => [(.one 81 [.fn 39 [.ptr 1 .z 1 0, .ptr 2 .z 1 0], .int .u64 a, .int .i64 h, .fn 40 [.ptr 2 .z 1 0, .ptr 1 .z 1 0]]), .one 3 [.int .i64 i], .one 22 [.slice 3 .z 1 b.length cap], .ro .u8 b])) := by
 have g2 := getX_con b pos cap 2 acc hv ai hby hl h (by decide)
 have g1 := fun pos acc hv ai h => getX_con b pos cap 1 acc hv ai hby hl h (by decide)
 rw [show ((2 : Nat) : Int) = 2 from rfl] at g2
 rw [show ((1 : Nat) : Int) = 1 from rfl] at g1
 have hg2 : ∀ x q, gt b 2 pos = .ok (x, q) → 0 ≤ x ∧ x < 4 := fun x q h => by have := gt_ok h; omega
 have hg1 : ∀ p x q, gt b 1 p = .ok (x, q) → x = 0 ∨ x = 1 := fun p x q h => by have := gt_ok h; omega
 have k0 : ∀ e, gt b 2 pos = .error e → smR b pos = .error e := fun e h => by unfold smR; rw [h]
 have k1 : ∀ x q, gt b 2 pos = .ok (x, q) → x ≠ 3 → smR b pos = .ok ((if x = 0 then 0 else 5 - x), q) := fun x q h h3 => by
  unfold smR; rw [h]; simp only [if_neg h3]; split <;> rfl
 have k2 : ∀ q e, gt b 2 pos = .ok (3, q) → gt b 1 q = .error e → smR b pos = .error e := fun q e h h2 => by unfold smR; rw [h]; simp [h2]
 have k3 : ∀ q q2, gt b 2 pos = .ok (3, q) → gt b 1 q = .ok (0, q2) → smR b pos = .ok (2, q2) := fun q q2 h h2 => by unfold smR; rw [h]; simp [h2]
 have k4 : ∀ q q2 e, gt b 2 pos = .ok (3, q) → gt b 1 q = .ok (1, q2) → gt b 1 q2 = .error e → smR b pos = .error e := fun q q2 e h h2 h3 => by unfold smR; rw [h]; simp [h2, h3]
 have k5 : ∀ q q2 z q3, gt b 2 pos = .ok (3, q) → gt b 1 q = .ok (1, q2) → gt b 1 q2 = .ok (z, q3) → smR b pos = .ok (1 + 4 * z, q3) := fun q q2 z q3 h h2 h3 => by unfold smR; rw [h]; simp [h2, h3]
 generalize smR b pos = r at *
 generalize gt b 2 pos = G2 at *
 generalize gt b 1 = G1 at *
 refine conX_gen (conX_cut 4 (by simp) (conX_drop (conX_walk hmix fn57 ?_)))
 intro vb vc vw vtoN vofN vaddN vsubN vmaxI vminI vcutN vgd vst vln vrep vsub vonto vsplice vstrEq vbyteV vnotB veqB hw qb qc qw qtoN qofN qaddN qsubN qmaxI qminI qcutN qgd qst qln qrep qsub qonto qsplice qstrEq qbyteV qnotB qeqB
 have hm := hmix; generalize Try.prog = P at *
 clear h
 obtain ⟨RQ, hRS⟩ : ∃ RQ, RS b = RQ := ⟨_, rfl⟩
 obtain ⟨bl, hbl⟩ : ∃ bl, bl = b.length := ⟨_, rfl⟩
 rw [← hbl] at g2 g1 ⊢
 clear hbl hl hby
 have e33 : vc .eql 3 3 = true := by rw [qc]; rfl
 have e00 : vc .eql 0 0 = true := by rw [qc]; rfl
 have e10 : vc .eql 1 0 = false := by rw [qc]; rfl
 cbv
 refine call_conX (ρ := [(0, .z), (1, .z), (2, .z), (3, .z)]) g2 ⟨by rfl, by rfl, by rfl, by cbv; exact ⟨view_refl _, trivial⟩⟩ ?_ ?_
 rotate_left
 ·rintro v H R js ⟨e, hg, rfl, rfl, a, h, i, rfl⟩
  cbv
  exact ⟨e, k0 e hg, rfl, rfl, a, h, i, rfl⟩
 rintro v H R js ⟨x, q, hg, rfl, rfl, acc2, hv2, ai2, h2, rfl⟩
 cbv
 obtain ⟨hx0, hx4⟩ := hg2 x q hg
 by_cases h3 : x = 3
 ·subst h3
  rw [e33]
  cbv
  refine call_conX (ρ := [(0, .z), (1, .z), (2, .z), (3, .z)]) (g1 q acc2 hv2 ai2 h2) ⟨by rfl, by rfl, by rfl, by cbv; exact ⟨view_refl _, trivial⟩⟩ ?_ ?_
  rotate_left
  ·rintro v H R js ⟨e, hg2, rfl, rfl, a, h, i, rfl⟩
   cbv
   exact ⟨e, k2 q e hg hg2, rfl, rfl, a, h, i, rfl⟩
  rintro v H R js ⟨y, q2, hgy, rfl, rfl, acc3, hv3, ai3, h3, rfl⟩
  cbv
  rcases hg1 q y q2 hgy with rfl | rfl
  ·rw [e00]
   cbv
   exact ⟨2, q2, k3 q q2 hg hgy, rfl, rfl, acc3, hv3, ai3, h3, rfl⟩
  ·rw [e10]
   cbv
   refine call_conX (ρ := [(0, .z), (1, .z), (2, .z), (3, .z)]) (g1 q2 acc3 hv3 ai3 h3) ⟨by rfl, by rfl, by rfl, by cbv; exact ⟨view_refl _, trivial⟩⟩ ?_ ?_
   rotate_left
   ·rintro v H R js ⟨e, hg2, rfl, rfl, a, h, i, rfl⟩
    cbv
    exact ⟨e, k4 q q2 e hg hgy hg2, rfl, rfl, a, h, i, rfl⟩
   rintro v H R js ⟨z, q3, hgz, rfl, rfl, acc4, hv4, ai4, h4, rfl⟩
   cbv
   have hk := k5 q q2 z q3 hg hgy hgz
   rcases hg1 q2 z q3 hgz with rfl | rfl
   ·rw [show vw .u8 (vb .add .i64 1 (vb .mul .i64 4 0)) = 1 by rw [qw, qb]; rfl]
    exact ⟨_, q3, hk, rfl, rfl, acc4, hv4, ai4, h4, rfl⟩
   ·rw [show vw .u8 (vb .add .i64 1 (vb .mul .i64 4 1)) = 5 by rw [qw, qb]; rfl]
    exact ⟨_, q3, hk, rfl, rfl, acc4, hv4, ai4, h4, rfl⟩
 ·have hk := k1 x q hg h3
  rw [show vc .eql x 3 = false by rw [qc]; exact decide_eq_false h3]
  cbv
  have hx : x = 0 ∨ x = 1 ∨ x = 2 := by omega
  rcases hx with rfl | rfl | rfl
  ·rw [e00]
   cbv
   exact ⟨_, q, hk, rfl, rfl, acc2, hv2, ai2, h2, rfl⟩
  ·rw [e10]
   cbv
   rw [show vw .u8 (vb .sub .i64 5 1) = 4 by rw [qw, qb]; rfl]
   exact ⟨_, q, hk, rfl, rfl, acc2, hv2, ai2, h2, rfl⟩
  ·rw [show vc .eql 2 0 = false by rw [qc]; rfl]
   cbv
   rw [show vw .u8 (vb .sub .i64 5 2) = 3 by rw [qw, qb]; rfl]
   exact ⟨_, q, hk, rfl, rfl, acc2, hv2, ai2, h2, rfl⟩
open Classical in
noncomputable def decR (l b : List Int) (p : Nat) : Except Int (Int × Nat) := if h : ∃ x : Int × Nat, Dec l b p x.1 0 x.2 then .ok (Classical.choose h) else .error 10
theorem decR_ok {l b : List Int} {p : Nat} {s : Int} {q : Nat} (h : Dec l b p s 0 q) : decR l b p = .ok (s, q) := by
 have hx : ∃ x : Int × Nat, Dec l b p x.1 0 x.2 := ⟨(s, q), h⟩
 unfold decR
 rw [dif_pos hx]
 have := Dec.det (Classical.choose_spec hx) h
 simp only [Except.ok.injEq]
 exact Prod.ext this.1 this.2.2
theorem decR_err {l b : List Int} {p : Nat} {s : Int} {q : Nat} (h : Dec l b p s 10 q) : decR l b p = .error 10 := by
 unfold decR
 rw [dif_neg]
 rintro ⟨x, hx⟩
 have := (Dec.det hx h).2.1
 omega
theorem Dec.e {l b : List Int} {p : Nat} {s e : Int} {q : Nat} (h : Dec l b p s e q) : e = 0 ∨ e = 10 := by
 rcases h with ⟨L, i, _, _, _, _, _, _, _, _, _, h, _⟩ | ⟨L, _, _, _, _, h, _⟩
 ·exact .inl h
 ·exact .inr h
theorem nextX_con (l b : List Int) (pos cap cap2 : Nat) (acc hv ai one : Int) (hR : Rt l) (hby : ∀ x ∈ b, isByte x) (hl : b.length ≤ 2 ^ 50) (h : RS b pos acc hv ai) (hl0 : 0 < l.length) (hlm : l.length ≤ 1024) (hp : pos ≤ 8 * b.length) :
  ConX Try.prog 35 [.ptr 0 .z 4 0, .agg [.slice 4 .z 1 l.length cap2, .int .i64 one]] [(.one 81 [.fn 39 [.ptr 1 .z 1 0, .ptr 2 .z 1 0], .int .u64 acc, .int .i64 hv, .fn 40 [.ptr 2 .z 1 0, .ptr 1 .z 1 0]]), .one 3 [.int .i64 ai], .one 22 [.slice 3 .z 1 b.length cap], .ro .u8 b, .ro .u8 l] (PostR b (decR l b pos) (.int .i64) (fun a h i => [(.one 81 [.fn 39 [.ptr 1 .z 1 0, .ptr 2 .z 1 0], .int .u64 a, .int .i64 h, .fn 40 [.ptr 2 .z 1 0, .ptr 1 .z 1 0]]), .one 3 [.int .i64 i], .one 22 [.slice 3 .z 1 b.length cap], .ro .u8 b, .ro .u8 l])) (PanR (decR l b pos) (fun a h i => [(.one 81 [.fn 39 [.ptr 1 .z 1 0, .ptr 2 .z 1 0], .int .u64 a, .int .i64 h, .fn 40 [.ptr 2 .z 1 0, .ptr 1 .z 1 0]]), .one 3 [.int .i64 i], .one 22 [.slice 3 .z 1 b.length cap], .ro .u8 b, .ro .u8 l])) := by
 have hw := word_con l b pos cap cap2 acc hv ai hR hby hl h hp
 have key : ∀ s e q, Dec l b pos s e q → (e = 0 ∧ decR l b pos = .ok (s, q)) ∨ (e = 10 ∧ decR l b pos = .error 10) := fun s e q h => by
  rcases h.e with rfl | rfl
  ·exact .inl ⟨rfl, decR_ok h⟩
  ·exact .inr ⟨rfl, decR_err h⟩
 generalize decR l b pos = r at *
 generalize Dec l b pos = D at *
 clear h
 obtain ⟨RQ, hRS⟩ : ∃ RQ, RS b = RQ := ⟨_, rfl⟩
 obtain ⟨bl, hbl⟩ : ∃ bl, bl = b.length := ⟨_, rfl⟩
 obtain ⟨ll, hll⟩ : ∃ ll, ll = l.length := ⟨_, rfl⟩
 rw [← hbl, ← hll] at hw ⊢
 rw [← hll] at hl0 hlm
 clear hbl hl hby
 refine conX_gen (conX_cut 5 (by simp) (conX_drop (conX_walk hmix fn35 ?_)))
 have hwc := hw
 clear hw
 intro vb vc vw vtoN vofN vaddN vsubN vmaxI vminI vcutN vgd vst vln vrep vsub vonto vsplice vstrEq vbyteV vnotB veqB hw qb qc qw qtoN qofN qaddN qsubN qmaxI qminI qcutN qgd qst qln qrep qsub qonto qsplice qstrEq qbyteV qnotB qeqB
 have hm := hmix; generalize Try.prog = P at *
 have e1 : vc .eql (vofN ll) 0 = false := by rw [qc, qofN]; exact decide_eq_false (by intro h; have h : (ll : Int) = 0 := h; omega)
 cbv
 rw [e1]
 cbv
 refine call_con (ρ := [(0, .z), (1, .z), (2, .z), (3, .z), (4, .z)]) hwc ⟨by rfl, by rfl, by rfl, by cbv; exact ⟨view_refl _, view_refl _, trivial⟩⟩ ?_
 rintro v H R js ⟨acc2, hv2, ai2, s, e, q, rfl, h2, hD, rfl, rfl⟩
 cbv
 rcases key s e q hD with ⟨rfl, hg⟩ | ⟨rfl, hg⟩
 ·rw [show vc .neq 0 0 = false by rw [qc]; rfl]
  cbv
  exact ⟨s, q, hg, rfl, rfl, acc2, hv2, ai2, h2, rfl⟩
 ·rw [show vc .neq 10 0 = true by rw [qc]; rfl]
  cbv
  exact ⟨10, hg, rfl, rfl, acc2, hv2, ai2, rfl⟩
theorem nextX_one (b : List Int) (pos cap : Nat) (acc hv ai one : Int) (hby : ∀ x ∈ b, isByte x) (hl : b.length ≤ 2 ^ 50) (h : RS b pos acc hv ai) :
  ConX Try.prog 35 [.ptr 0 .z 4 0, .agg [.val (.slice none 0 0), .int .i64 one]] [(.one 81 [.fn 39 [.ptr 1 .z 1 0, .ptr 2 .z 1 0], .int .u64 acc, .int .i64 hv, .fn 40 [.ptr 2 .z 1 0, .ptr 1 .z 1 0]]), .one 3 [.int .i64 ai], .one 22 [.slice 3 .z 1 b.length cap], .ro .u8 b] (PostR b (.ok (one, pos)) (.int .i64) (fun a h i => [(.one 81 [.fn 39 [.ptr 1 .z 1 0, .ptr 2 .z 1 0], .int .u64 a, .int .i64 h, .fn 40 [.ptr 2 .z 1 0, .ptr 1 .z 1 0]]), .one 3 [.int .i64 i], .one 22 [.slice 3 .z 1 b.length cap], .ro .u8 b])) (PanR (Except.ok (one, pos)) (fun a h i => [(.one 81 [.fn 39 [.ptr 1 .z 1 0, .ptr 2 .z 1 0], .int .u64 a, .int .i64 h, .fn 40 [.ptr 2 .z 1 0, .ptr 1 .z 1 0]]), .one 3 [.int .i64 i], .one 22 [.slice 3 .z 1 b.length cap], .ro .u8 b])) := by
 obtain ⟨RQ, hRS⟩ : ∃ RQ, RS b = RQ := ⟨_, rfl⟩
 obtain ⟨bl, hbl⟩ : ∃ bl, bl = b.length := ⟨_, rfl⟩
 rw [← hbl]
 clear hbl hl hby
 refine conX_gen (conX_cut 4 (by simp) (conX_drop (conX_walk hmix fn35 ?_)))
 intro vb vc vw vtoN vofN vaddN vsubN vmaxI vminI vcutN vgd vst vln vrep vsub vonto vsplice vstrEq vbyteV vnotB veqB hw qb qc qw qtoN qofN qaddN qsubN qmaxI qminI qcutN qgd qst qln qrep qsub qonto qsplice qstrEq qbyteV qnotB qeqB
 have hm := hmix; generalize Try.prog = P at *
 cbv
 exact ⟨one, pos, rfl, rfl, rfl, acc, hv, ai, h, rfl⟩
end Go.Proofs.Ytkkddgdcmdnnmaa
namespace Go.Proofs.Ytkkddgdcmdnnmaa
open Go Go.Sx Go.Proofs
def blen (x : Int) : Int := if x ≤ 0 then 0 else (Nat.log2 x.toNat : Int) + 1
theorem blen_of {x : Int} {k : Nat} (h0 : 2 ^ k ≤ x) (h1 : x < 2 ^ (k + 1)) : blen x = k + 1 := by
  have hp : (0 : Int) < 2 ^ k := Int.pow_pos (by omega)
  unfold blen
  rw [if_neg (by omega)]
  obtain ⟨n, rfl⟩ : ∃ n : Nat, x = n := ⟨x.toNat, by omega⟩
  have a : 2 ^ k ≤ n := by exact_mod_cast h0
  have b : n < 2 ^ (k + 1) := by exact_mod_cast h1
  have hn : n ≠ 0 := by have : 0 < 2 ^ k := Nat.pow_pos (by omega); omega
  have c1 : n.log2 < k + 1 := (Nat.log2_lt hn).2 b
  have c2 : k ≤ n.log2 := (Nat.le_log2 hn).2 a
  simp only [Int.toNat_natCast]
  omega
theorem blen_spec {x : Int} (h : 0 < x) : ∃ k : Nat, blen x = k + 1 ∧ 2 ^ k ≤ x ∧ x < 2 ^ (k + 1) := by
  obtain ⟨n, rfl⟩ : ∃ n : Nat, x = n := ⟨x.toNat, by omega⟩
  have hn : n ≠ 0 := by omega
  refine ⟨n.log2, ?_, ?_, ?_⟩
  · unfold blen; rw [if_neg (by omega)]; simp
  · exact_mod_cast (Nat.le_log2 hn).1 (Nat.le_refl _)
  · exact_mod_cast (Nat.log2_lt hn).1 (Nat.lt_succ_self _)
theorem blen_half {x : Int} (h : 0 < x) : blen x = blen (x / 2) + 1 := by
  obtain ⟨k, h1, h2, h3⟩ := blen_spec h
  cases k with
  | zero =>
    have : x = 1 := by omega
    subst this; rfl
  | succ k =>
    have e : blen (x / 2) = k + 1 := blen_of (by rw [Int.pow_succ] at h2; omega) (by rw [Int.pow_succ] at h3; omega)
    rw [h1, e]; push_cast; omega
theorem blen_nonpos {x : Int} (h : x ≤ 0) : blen x = 0 := by unfold blen; rw [if_pos h]
theorem blen_range {x : Int} {n : Nat} (h0 : 0 ≤ x) (h : x < 2 ^ n) : 0 ≤ blen x ∧ blen x ≤ n := by
  rcases Int.lt_or_le 0 x with hx | hx
  · obtain ⟨k, h1, h2, h3⟩ := blen_spec hx
    have : k < n := by
      apply Classical.byContradiction
      intro hk
      have : (2 : Int) ^ n ≤ 2 ^ k := by exact_mod_cast Nat.pow_le_pow_right (by omega : 0 < 2) (by omega : n ≤ k)
      omega
    omega
  · rw [blen_nonpos hx]; omega
theorem blen_16 {x : Int} (h0 : 0 ≤ x) (h : x < 65536) : 0 ≤ blen x ∧ blen x ≤ 16 := blen_range (n := 16) h0 h
theorem blen_8 {x : Int} (h0 : 0 ≤ x) (h : x < 256) : 0 ≤ blen x ∧ blen x ≤ 8 := blen_range (n := 8) h0 h
set_option maxRecDepth 100000 in
theorem lenTab_blen (n : Fin 256) : IntKind.i64.wrap (((UInt8.ofNat (lenTab.getD n.val 0).toNat).toNat : Nat) : Int) = blen (n.val : Int) := by
  revert n
  decide +kernel
theorem blen_256 {x : Int} (h : 256 ≤ x) : blen x = 8 + blen (x / 256) := by
  have e : x / 256 = x / 2 / 2 / 2 / 2 / 2 / 2 / 2 / 2 := by omega
  rw [e, blen_half (x := x) (by omega), blen_half (x := x / 2) (by omega), blen_half (x := x / 2 / 2) (by omega), blen_half (x := x / 2 / 2 / 2) (by omega), blen_half (x := x / 2 / 2 / 2 / 2) (by omega),
    blen_half (x := x / 2 / 2 / 2 / 2 / 2) (by omega), blen_half (x := x / 2 / 2 / 2 / 2 / 2 / 2) (by omega), blen_half (x := x / 2 / 2 / 2 / 2 / 2 / 2 / 2) (by omega)]
  omega
set_option maxRecDepth 100000 in
theorem len64_con (x : Int) (hx : 0 ≤ x ∧ x < 65536) : Con Try.prog 64 [.int .u64 x] [] (fun v H R => v = .int .i64 (blen x) ∧ H = [] ∧ R = []) := by
  refine con_gen (con_walk hmix fn64 ?_)
  intro vb vc vw vtoN vofN vaddN vsubN vmaxI vminI vcutN vgd vst vln vrep vsub vonto vsplice vstrEq vbyteV vnotB veqB hw qb qc qw qtoN qofN qaddN qsubN qmaxI qminI qcutN qgd qst qln qrep qsub qonto qsplice qstrEq qbyteV qnotB qeqB
  have hm := hmix
  generalize Try.prog = P at *
  have hl : lenTab.length = 256 := by rfl
  have key : ∀ y : Int, 0 ≤ y → y < 256 → vw .i64 (vbyteV (vgd lenTab (vtoN y))) = blen y := by
    intro y h0 h1
    obtain ⟨n, rfl⟩ : ∃ n : Nat, y = n := ⟨y.toNat, by omega⟩
    rw [qw, qbyteV, qgd, qtoN]
    exact lenTab_blen ⟨n, by omega⟩
  have hb256 := @blen_256 x
  have hbr := @blen_8 (x / 256) (by omega) (by omega)
  have hbx := @blen_16 x (by omega) (by omega)
  have e1 : x64 = (.seq (.ops [⟨(some 2), .mv (.k (.lit .i64 0)), none, []⟩])
    (.seq (.seq (.ops [⟨(some 3), .mv (.t 0), none, []⟩,
      ⟨(some 4), .cmp .geq (.t 3) (.k (.lit .u64 4294967296)), none, []⟩])
    (.cond (.t 4) (.seq (.ops [⟨(some 5), .mv (.t 0), none, []⟩,
      ⟨(some 6), .bin .shr .u64 (.t 5) (.k (.lit .u64 32)), none, []⟩,
      ⟨(some 0), .mv (.t 6), none, []⟩])
    (.ops [⟨(some 2), .mv (.k (.lit .i64 32)), none, []⟩])) (.skip)))
    (.seq (.seq (.ops [⟨(some 7), .mv (.t 0), none, []⟩,
      ⟨(some 8), .cmp .geq (.t 7) (.k (.lit .u64 65536)), none, []⟩])
    (.cond (.t 8) (.seq (.ops [⟨(some 9), .mv (.t 0), none, []⟩,
      ⟨(some 10), .bin .shr .u64 (.t 9) (.k (.lit .u64 16)), none, []⟩,
      ⟨(some 0), .mv (.t 10), none, []⟩])
    (.ops [⟨(some 11), .mv (.t 2), none, []⟩,
      ⟨(some 12), .bin .add .i64 (.t 11) (.k (.lit .i64 16)), none, []⟩,
      ⟨(some 2), .mv (.t 12), none, []⟩])) (.skip)))
    (.seq (.seq (.ops [⟨(some 13), .mv (.t 0), none, []⟩,
      ⟨(some 14), .cmp .geq (.t 13) (.k (.lit .u64 256)), none, []⟩])
    (.cond (.t 14) (.seq (.ops [⟨(some 15), .mv (.t 0), none, []⟩,
      ⟨(some 16), .bin .shr .u64 (.t 15) (.k (.lit .u64 8)), none, []⟩,
      ⟨(some 0), .mv (.t 16), none, []⟩])
    (.ops [⟨(some 17), .mv (.t 2), none, []⟩,
      ⟨(some 18), .bin .add .i64 (.t 17) (.k (.lit .i64 8)), none, []⟩,
      ⟨(some 2), .mv (.t 18), none, []⟩])) (.skip)))
    (.seq (.ops [⟨(some 19), .mv (.t 2), none, []⟩,
      ⟨(some 20), .mv (.t 0), none, []⟩,
      ⟨(some 21), .conv .u8 (.t 20), none, []⟩,
      ⟨(some 22), .idxS (.k (.str lenTab)) (.t 21), none, []⟩,
      ⟨(some 23), .conv .i64 (.t 22), none, []⟩,
      ⟨(some 24), .bin .add .i64 (.t 19) (.t 23), none, []⟩,
      ⟨(some 2), .mv (.t 24), none, []⟩])
    (.ret)))))) := rfl
  rw [e1]
  have hll : vln lenTab = 256 := by rw [qln]; exact hl
  generalize lenTab = T at *
  have d1 : vc .geq x 4294967296 = false := by rw [qc, geq_false]; omega
  have d2 : vc .geq x 65536 = false := by rw [qc, geq_false]; omega
  generalize hbl : blen x = bl at *
  generalize hbl2 : blen (x / 256) = bl2 at *
  cbv
  rw [d1]
  cbv
  rw [d2]
  cbv
  generalize d3 : vc .geq x 256 = z
  cases z
  · rw [qc, geq_false] at d3
    have w1 : vw .u8 x = x := by rw [qw]; exact wrap_u8 (by omega) (by omega)
    have hk := key x (by omega) (by omega)
    cbv
    rw [w1, hk, hbl]
    refine ⟨⟨?_⟩, ?_, trivial⟩
    · rw [hll]; omega
    · congr 1
      rw [qb, add_i64 (by omega) (by omega)]; omega
  · rw [qc, geq_true] at d3
    have s1 : vb .shr .u64 x 8 = x / 256 := by rw [qb]; show x.fdiv (2 ^ 8) = _; rw [Int.fdiv_eq_ediv_of_nonneg _ (by omega)]; rfl
    have w1 : vw .u8 (x / 256) = x / 256 := by rw [qw]; exact wrap_u8 (by omega) (by omega)
    have hk := key (x / 256) (by omega) (by omega)
    have := hb256 (by omega)
    cbv
    rw [s1, w1, hk, hbl2]
    refine ⟨⟨?_⟩, ?_, trivial⟩
    · rw [hll]; omega
    · congr 1
      rw [qb, add_i64 (by omega) (by omega)]; omega
theorem len_con (x : Int) (hx : 0 ≤ x ∧ x < 65536) : Con Try.prog 41 [.int .u64 x] [] (fun v H R => v = .int .i64 (blen x) ∧ H = [] ∧ R = []) := by
  have hc := len64_con x hx
  refine con_gen (con_walk hmix fn41 ?_)
  intro vb vc vw vtoN vofN vaddN vsubN vmaxI vminI vcutN vgd vst vln vrep vsub vonto vsplice vstrEq vbyteV vnotB veqB hw qb qc qw qtoN qofN qaddN qsubN qmaxI qminI qcutN qgd qst qln qrep qsub qonto qsplice qstrEq qbyteV qnotB qeqB
  have hm := hmix
  generalize Try.prog = P at *
  generalize blen x = bl at *
  cbv
  refine call_con (ρ := []) hc ⟨by rfl, by rfl, by rfl, by cbv⟩ ?_
  rintro v H R js ⟨rfl, rfl, rfl⟩
  cbv
theorem width_con (x : Int) (hx : 0 ≤ x ∧ x < 65536) : Con Try.prog 70 [.int .i64 x] [] (fun v H R => v = .int .i64 (blen x) ∧ H = [] ∧ R = []) := by
  refine con_gen (con_walk hmix fn70 ?_)
  intro vb vc vw vtoN vofN vaddN vsubN vmaxI vminI vcutN vgd vst vln vrep vsub vonto vsplice vstrEq vbyteV vnotB veqB hw qb qc qw qtoN qofN qaddN qsubN qmaxI qminI qcutN qgd qst qln qrep qsub qonto qsplice qstrEq qbyteV qnotB qeqB
  have hm := hmix
  generalize Try.prog = P at *
  have hb0 := @blen_nonpos
  have hbh := @blen_half
  have hbr := @blen_16
  generalize hbl : blen = f at *
  have hfx := hbr (x := x) (by omega) (by omega)
  cbv
  refine loop_fam (α := Int × Int) [4, 5, 6, 7, 8, 9] [] (fun (k, m) => [(0, .int .i64 k), (3, .int .i64 m)]) (fun _ => []) (fun (k, m) => 0 ≤ k ∧ k < 65536 ∧ 0 ≤ m ∧ m + f k = f x) (fun (k, _) => k.toNat) hw hm ?_ ?_
  · refine Cv.genAt [3] [] (Cv.fold [4, 5, 6, 7, 8, 9] 0 [] (by exact Nat.le_refl _) (by exact Nat.le_of_ble_eq_true rfl) (by rfl) (by cbv) ?_)
    intro js
    refine ⟨(_, _), ?_, js, rfl⟩
    refine ⟨by omega, by omega, by omega, by omega⟩
  · rintro ⟨k, m⟩ js ⟨h0, h1, h2, h3⟩
    have hfk := hbr (x := k) (by omega) (by omega)
    cbv
    split
    · rename_i h
      rw [qc, gtr_true] at h
      have e1 : vb .quo .i64 k 2 = k / 2 := by rw [qb, quo_i64 (by omega) (by omega) (by omega)]
      have hh := hbh h
      have hfk2 := hbr (x := k / 2) (by omega) (by omega)
      have e2 : vb .add .i64 m 1 = m + 1 := by rw [qb, add_i64 (by omega) (by omega)]
      cbv
      rw [e1, e2]
      refine Cv.fold [4, 5, 6, 7, 8, 9] 0 [] (by exact Nat.le_refl _) (by exact Nat.le_of_ble_eq_true rfl) (by rfl) (by cbv) ?_
      intro js
      refine ⟨(_, _), ?_, js, rfl⟩
      exact ⟨⟨by omega, by omega, by omega, by omega⟩, by show (k / 2).toNat < k.toNat; omega⟩
    · rename_i h
      rw [qc, gtr_false] at h
      have := hb0 (x := k) (by omega)
      have e : m = f x := by omega
      cbv
      rw [e]
      exact ⟨rfl, trivial⟩
end Go.Proofs.Ytkkddgdcmdnnmaa
namespace Go.Proofs.Ytkkddgdcmdnnmaa
open Go Go.Sx Go.Proofs
set_option maxRecDepth 10000
set_option maxHeartbeats 4000000
theorem index_con (l : List Int) (n c : Nat) (s : Int) (hn : n ≤ l.length) (hln : l.length ≤ 4096) :
  Con Try.prog 74 [.slice 0 .z 1 n c, .int .i64 s] [.ro .i64 l] (fun v H R => ∃ z : Int, v = .int .i64 z ∧ ((0 ≤ z ∧ ∃ k, k < n ∧ l.getD k 0 = s) ∨ (z = -1 ∧ ∀ k, k < n → l.getD k 0 ≠ s)) ∧ H = [.ro .i64 l] ∧ R = []) := by
 refine con_gen (con_cut 1 (by simp) (con_drop (con_walk hmix fn74 ?_)))
 intro vb vc vw vtoN vofN vaddN vsubN vmaxI vminI vcutN vgd vst vln vrep vsub vonto vsplice vstrEq vbyteV vnotB veqB hw qb qc qw qtoN qofN qaddN qsubN qmaxI qminI qcutN qgd qst qln qrep qsub qonto qsplice qstrEq qbyteV qnotB qeqB
 have hm := hmix; generalize Try.prog = P at *
 have hgd : ∀ i, vgd l i = l.getD i 0 := fun i => by rw [qgd]
 have hlnq : vln l = l.length := by rw [qln]
 have hto : ∀ i : Nat, vtoN (i : Int) = i := fun i => by simp only [qtoN, Int.toNat_natCast]
 have hadd0 : ∀ i, vaddN 0 i = i := fun i => by simp only [qaddN, Nat.zero_add]
 obtain ⟨nI, hnI⟩ : ∃ nI : Int, nI = n := ⟨_, rfl⟩
 have hofn : vofN n = nI := by rw [qofN]; exact hnI.symm
 cbv
 refine loop_fam (α := Int) ([5] ++ (List.range' 9 10)) [] (fun k => [(8, .int .i64 k)]) (fun _ => [])
  (fun k => ∃ i : Nat, k = i ∧ i ≤ n ∧ ∀ j, j < i → l.getD j 0 ≠ s) (fun k => n - k.toNat) hw hm ?_ ?_
 ·refine Cv.genAt [8] [] (Cv.fold ([5] ++ (List.range' 9 10)) 1 [] (by exact Nat.le_refl _) (by exact Nat.le_of_ble_eq_true rfl) (by rfl) (by cbv) ?_)
  intro js
  refine ⟨_, ?_, js, rfl⟩
  exact ⟨0, rfl, by omega, fun j hj => absurd hj (by omega)⟩
 ·rintro k js ⟨i, hk, hi, hne⟩
  cbv
  rw [hofn]
  split
  rotate_left
  ·rename_i hlt
   have hin : i = n := by rw [qc, lss_false] at hlt; simp only [nc] at *; omega
   subst hin
   cbv
   exact ⟨-1, rfl, .inr ⟨rfl, hne⟩, rfl, rfl⟩
  ·rename_i hlt
   have hlt : i < n := by rw [qc, lss_true] at hlt; simp only [nc] at *; omega
   have hti : vtoN k = i := by rw [hk]; exact hto i
   have hinR : 0 ≤ k ∧ k < (n : Int) := by simp only [nc] at *; omega
   have hvl : i < vln l := by omega
   obtain ⟨x, hx⟩ : ∃ x, x = l.getD i 0 := ⟨_, rfl⟩
   obtain ⟨k1, hk1⟩ : ∃ k1 : Int, k1 = ((i + 1 : Nat) : Int) := ⟨_, rfl⟩
   have ek : vb .add .i64 k 1 = k1 := by simp only [nc] at *; rw [qb, add_i64 (by omega) (by omega)]; omega
   have hmu : n - k1.toNat < n - k.toNat := by simp only [nc] at *; omega
   cbv
   rw [hti, hadd0, hgd, ← hx]
   refine ⟨⟨hinR⟩, ⟨hvl⟩, ⟨hvl⟩, ?_⟩
   generalize hz : vc .eql s x = z
   cases z
   ·rw [qc, eql_false] at hz
    cbv
    rw [ek]
    refine Cv.fold ([5] ++ (List.range' 9 10)) 1 [] (by exact Nat.le_refl _) (by exact Nat.le_of_ble_eq_true rfl) (by rfl) (by cbv) ?_
    intro js
    refine ⟨_, ?_, js, rfl⟩
    refine ⟨⟨i + 1, hk1, hlt, fun j hj => ?_⟩, hmu⟩
    rcases Nat.lt_or_ge j i with h | h
    ·exact hne j h
    ·have : j = i := by omega
     subst this
     rw [← hx]
     exact fun h => hz h.symm
   ·rw [qc, eql_true] at hz
    cbv
    exact ⟨k, rfl, .inl ⟨by simp only [nc] at *; omega, i, hlt, by rw [← hx]; exact hz.symm⟩, rfl, rfl⟩
theorem contains_con (l : List Int) (n c : Nat) (s : Int) (hn : n ≤ l.length) (hln : l.length ≤ 4096) :
  Con Try.prog 56 [.slice 0 .z 1 n c, .int .i64 s] [.ro .i64 l] (fun v H R => ∃ z : Bool, v = .bool z ∧ (z = true ↔ ∃ k, k < n ∧ l.getD k 0 = s) ∧ H = [.ro .i64 l] ∧ R = []) := by
 have hi := index_con l n c s hn hln
 obtain ⟨A, hA⟩ : ∃ A : Prop, A = ∃ k, k < n ∧ l.getD k 0 = s := ⟨_, rfl⟩
 obtain ⟨B, hB⟩ : ∃ B : Prop, B = ∀ k, k < n → l.getD k 0 ≠ s := ⟨_, rfl⟩
 have hBA : B → ¬ A := by rw [hA, hB]; rintro h ⟨k, h1, h2⟩; exact h k h1 h2
 rw [← hA, ← hB] at hi
 rw [← hA]
 clear hA hB
 refine con_gen (con_cut 1 (by simp) (con_drop (con_walk hmix fn56 ?_)))
 intro vb vc vw vtoN vofN vaddN vsubN vmaxI vminI vcutN vgd vst vln vrep vsub vonto vsplice vstrEq vbyteV vnotB veqB hw qb qc qw qtoN qofN qaddN qsubN qmaxI qminI qcutN qgd qst qln qrep qsub qonto qsplice qstrEq qbyteV qnotB qeqB
 have hm := hmix; generalize Try.prog = P at *
 cbv
 refine call_con (ρ := [(0, .z)]) hi ⟨by rfl, by rfl, by rfl, by cbv; exact ⟨view_refl _, trivial⟩⟩ ?_
 rintro v H R js ⟨z, rfl, h, rfl, rfl⟩
 cbv
 refine ⟨_, rfl, ⟨fun h2 => ?_, fun h2 => ?_⟩, rfl, rfl⟩
 ·rw [qc] at h2
  simp only [cV, decide_eq_true_eq] at h2
  rcases h with ⟨_, h⟩ | ⟨h, _⟩
  ·exact h
  ·omega
 ·rw [qc]
  simp only [cV, decide_eq_true_eq]
  rcases h with ⟨h, _⟩ | ⟨_, h⟩
  ·exact h
  ·exact absurd h2 (hBA h)
end Go.Proofs.Ytkkddgdcmdnnmaa
namespace Go.Proofs.Ytkkddgdcmdnnmaa
open Go Go.Sx Go.Proofs
set_option maxRecDepth 10000
set_option maxHeartbeats 4000000
def symsR (b : List Int) (w : Nat) (size : Int) : Nat → Nat → List Int → Except Int (List Int × Nat)
 | 0, p, l => .ok (l, p)
 | k + 1, p, l => match gt b w p with
  | .error e => .error e
  | .ok (s, q) => if s < size then symsR b w size k q (l ++ [s]) else .error 11
def givL (n : Nat) (y : Int) : List Int := if n = 2 then [1, 1] else if n = 3 then [1, 2, 2] else if y = 1 then [1, 2, 3, 3] else [2, 2, 2, 2]
def putS (L : List Int) : List Int → List Int → List Int
 | s :: ss, g :: gs => putS (L.set s.toNat g) ss gs
 | _, _ => L
theorem putS_nil (L g : List Int) : putS L [] g = L := by cases g <;> rfl
theorem putS_drop {L l g : List Int} {i : Nat} (h1 : i < l.length) (h2 : i < g.length) : putS L (l.drop i) (g.drop i) = putS (L.set (l.getD i 0).toNat (g.getD i 0)) (l.drop (i + 1)) (g.drop (i + 1)) := by
 rw [List.drop_eq_getElem_cons h1, List.drop_eq_getElem_cons h2]
 simp only [putS]
 rw [List.getD_eq_getElem?_getD, List.getD_eq_getElem?_getD, List.getElem?_eq_getElem h1, List.getElem?_eq_getElem h2]
 rfl
def fewR (b : List Int) (size : Int) (p : Nat) : Except Int ((Int ⊕ List Int) × Nat) :=
 match gt b 2 p with
 | .error e => .error e
 | .ok (x, q) => match symsR b (blen (size - 1)).toNat size (x.toNat + 1) q [] with
  | .error e => .error e
  | .ok (l, q2) => if l.Nodup then
    (if x = 0 then .ok (.inl (l.getD 0 0), q2)
    else if x = 3 then (match gt b 1 q2 with
     | .error e => .error e
     | .ok (y, q3) => .ok (.inr (putS (List.replicate size.toNat 0) l (givL 4 y)), q3))
    else .ok (.inr (putS (List.replicate size.toNat 0) l (givL (x.toNat + 1) 0)), q2))
   else .error 11
def CdPost (b : List Int) (r : Except Int ((Int ⊕ List Int) × Nat)) (B : Int → Int → Int → List SB) : SV → List SB → List Nat → Prop := fun v H R =>
 ∃ x q, r = .ok (x, q) ∧ R = [] ∧ ∃ a h i, RS b q a h i ∧
  ((∃ n, x = .inl n ∧ v = .agg [.val (.slice none 0 0), .int .i64 n] ∧ H = B a h i) ∨ (∃ L, x = .inr L ∧ v = .agg [.slice 4 .z 1 L.length L.length, .int .i64 0] ∧ H = B a h i ++ [.ints 5 .u8 L]))
theorem nodup_of {l : List Int} (h : ∀ j, j < l.length → ∀ q, q < j → l.getD q 0 ≠ l.getD j 0) : l.Nodup := by
 refine List.pairwise_iff_getElem.2 (fun i j hi hj hij => ?_)
 have := h j hj i hij
 rwa [List.getD_eq_getElem?_getD, List.getD_eq_getElem?_getD, List.getElem?_eq_getElem hj, List.getElem?_eq_getElem hi] at this
theorem not_nodup {l : List Int} {j q : Nat} (hj : j < l.length) (hq : q < j) (h : l.getD q 0 = l.getD j 0) : ¬ l.Nodup := by
 intro hn
 refine List.pairwise_iff_getElem.1 hn q j (by omega) hj hq ?_
 rwa [List.getD_eq_getElem?_getD, List.getD_eq_getElem?_getD, List.getElem?_eq_getElem hj, List.getElem?_eq_getElem (by omega : q < l.length)] at h
theorem fewX_con (b : List Int) (pos cap : Nat) (acc hv ai size : Int) (hby : ∀ x ∈ b, isByte x) (hl : b.length ≤ 2 ^ 50) (h : RS b pos acc hv ai) (hs : 1 ≤ size ∧ size ≤ 1024) :
  ConX Try.prog 28 [.ptr 0 .z 4 0, .int .i64 size] [(.one 81 [.fn 39 [.ptr 1 .z 1 0, .ptr 2 .z 1 0], .int .u64 acc, .int .i64 hv, .fn 40 [.ptr 2 .z 1 0, .ptr 1 .z 1 0]]), .one 3 [.int .i64 ai], .one 22 [.slice 3 .z 1 b.length cap], .ro .u8 b] (CdPost b (fewR b size pos) (fun a h i => [(.one 81 [.fn 39 [.ptr 1 .z 1 0, .ptr 2 .z 1 0], .int .u64 a, .int .i64 h, .fn 40 [.ptr 2 .z 1 0, .ptr 1 .z 1 0]]), .one 3 [.int .i64 i], .one 22 [.slice 3 .z 1 b.length cap], .ro .u8 b])) (PanR (fewR b size pos) (fun a h i => [(.one 81 [.fn 39 [.ptr 1 .z 1 0, .ptr 2 .z 1 0], .int .u64 a, .int .i64 h, .fn 40 [.ptr 2 .z 1 0, .ptr 1 .z 1 0]]), .one 3 [.int .i64 i], .one 22 [.slice 3 .z 1 b.length cap], .ro .u8 b])) := by
 have g2 := getX_con b pos cap 2 acc hv ai hby hl h (by decide)
 have g1 := fun pos acc hv ai h => getX_con b pos cap 1 acc hv ai hby hl h (by decide)
 rw [show ((2 : Nat) : Int) = 2 from rfl] at g2
 rw [show ((1 : Nat) : Int) = 1 from rfl] at g1
 obtain ⟨w, hw, hw10⟩ : ∃ w : Nat, blen (size - 1) = w ∧ w ≤ 10 := by
  have := blen_range (x := size - 1) (n := 10) (by omega) (by omega)
  exact ⟨(blen (size - 1)).toNat, by omega, by omega⟩
 have gw := fun pos acc hv ai h => getX_con b pos cap w acc hv ai hby hl h (by omega)
 have hlen := len_con (size - 1) (by omega)
 have hwt : (blen (size - 1)).toNat = w := by omega
 rw [hw] at hlen
 obtain ⟨wI, hwI⟩ : ∃ wI : Int, wI = w := ⟨_, rfl⟩
 rw [← hwI] at hlen gw
 obtain ⟨sz1, hsz1⟩ : ∃ sz1 : Int, sz1 = size - 1 := ⟨_, rfl⟩
 rw [← hsz1] at hlen
 have hmust := mustX_con
 have hx := fun x q h => gt_ok (b := b) (n := 2) (p := pos) (x := x) (q := q) h
 have hy := fun p x q h => gt_ok (b := b) (n := 1) (p := p) (x := x) (q := q) h
 have hsy := fun p x q h => gt_ok (b := b) (n := w) (p := p) (x := x) (q := q) h
 have k0 : ∀ e, gt b 2 pos = .error e → fewR b size pos = .error e := fun e h => by unfold fewR; rw [h]
 have k1 : ∀ x q e, gt b 2 pos = .ok (x, q) → symsR b w size (x.toNat + 1) q [] = .error e → fewR b size pos = .error e := fun x q e h h2 => by unfold fewR; rw [h]; simp only [hwt, h2]
 have k2 : ∀ x q l q2, gt b 2 pos = .ok (x, q) → symsR b w size (x.toNat + 1) q [] = .ok (l, q2) → ¬ l.Nodup → fewR b size pos = .error 11 := fun x q l q2 h h2 h3 => by unfold fewR; rw [h]; simp only [hwt, h2, if_neg h3]
 have k3 : ∀ q l q2, gt b 2 pos = .ok (0, q) → symsR b w size 1 q [] = .ok (l, q2) → l.Nodup → fewR b size pos = .ok (.inl (l.getD 0 0), q2) := fun q l q2 h h2 h3 => by
  have h2 : symsR b w size ((0 : Int).toNat + 1) q [] = .ok (l, q2) := h2
  unfold fewR; rw [h]; simp only [hwt, h2, if_pos h3, if_true]
 have k4 : ∀ q l q2 e, gt b 2 pos = .ok (3, q) → symsR b w size 4 q [] = .ok (l, q2) → l.Nodup → gt b 1 q2 = .error e → fewR b size pos = .error e := fun q l q2 e h h2 h3 h4 => by
  have h2 : symsR b w size ((3 : Int).toNat + 1) q [] = .ok (l, q2) := h2
  unfold fewR; rw [h]; simp only [hwt, h2, if_pos h3, h4]; rfl
 have k5 : ∀ q l q2 y q3, gt b 2 pos = .ok (3, q) → symsR b w size 4 q [] = .ok (l, q2) → l.Nodup → gt b 1 q2 = .ok (y, q3) → fewR b size pos = .ok (.inr (putS (List.replicate size.toNat 0) l (givL 4 y)), q3) := fun q l q2 y q3 h h2 h3 h4 => by
  have h2 : symsR b w size ((3 : Int).toNat + 1) q [] = .ok (l, q2) := h2
  unfold fewR; rw [h]; simp only [hwt, h2, if_pos h3, h4]; rfl
 have k6 : ∀ q l q2, gt b 2 pos = .ok (1, q) → symsR b w size 2 q [] = .ok (l, q2) → l.Nodup → fewR b size pos = .ok (.inr (putS (List.replicate size.toNat 0) l [1, 1]), q2) := fun q l q2 h h2 h3 => by
  have h2 : symsR b w size ((1 : Int).toNat + 1) q [] = .ok (l, q2) := h2
  unfold fewR; rw [h]; simp only [hwt, h2, if_pos h3]; rfl
 have k7 : ∀ q l q2, gt b 2 pos = .ok (2, q) → symsR b w size 3 q [] = .ok (l, q2) → l.Nodup → fewR b size pos = .ok (.inr (putS (List.replicate size.toNat 0) l [1, 2, 2]), q2) := fun q l q2 h h2 h3 => by
  have h2 : symsR b w size ((2 : Int).toNat + 1) q [] = .ok (l, q2) := h2
  unfold fewR; rw [h]; simp only [hwt, h2, if_pos h3]; rfl
 have s0 : ∀ p l, symsR b w size 0 p l = .ok (l, p) := fun _ _ => rfl
 have s1 : ∀ k p l e, gt b w p = .error e → symsR b w size (k + 1) p l = .error e := fun k p l e h => by simp only [symsR, h]
 have s2 : ∀ k p l s q, gt b w p = .ok (s, q) → s < size → symsR b w size (k + 1) p l = symsR b w size k q (l ++ [s]) := fun k p l s q h h2 => by simp only [symsR, h, if_pos h2]
 have s3 : ∀ k p l s q, gt b w p = .ok (s, q) → ¬ s < size → symsR b w size (k + 1) p l = .error 11 := fun k p l s q h h2 => by simp only [symsR, h, if_neg h2]
 have hcon := contains_con
 have pd := @putS_drop
 have pn := putS_nil
 have gv1 : givL 4 1 = [1, 2, 3, 3] := rfl
 have gv0 : givL 4 0 = [2, 2, 2, 2] := rfl
 have hnd := @nodup_of
 have hnn := @not_nodup
 generalize fewR b size pos = r at *
 generalize symsR b w size = SY at *
 generalize putS = PS at *
 generalize gt b 2 pos = G2 at *
 generalize gt b 1 = G1 at *
 generalize gt b w = GW at *
 generalize givL = GV at *
 generalize hNdd : (List.Nodup : List Int → Prop) = ND at *
 refine conX_gen (conX_picks (conX_drop (conX_walk hmix fn28 ?_)))
 have hwb := hw
 clear hw
 intro vb vc vw vtoN vofN vaddN vsubN vmaxI vminI vcutN vgd vst vln vrep vsub vonto vsplice vstrEq vbyteV vnotB veqB hw qb qc qw qtoN qofN qaddN qsubN qmaxI qminI qcutN qgd qst qln qrep qsub qonto qsplice qstrEq qbyteV qnotB qeqB
 have hm := hmix; generalize Try.prog = P at *
 clear h
 obtain ⟨bl, hbl⟩ : ∃ bl, bl = b.length := ⟨_, rfl⟩
 rw [← hbl] at g2 g1 gw ⊢
 clear hbl hl hby
 have hto : ∀ i : Nat, vtoN (i : Int) = i := fun i => by simp only [qtoN, Int.toNat_natCast]
 have hadd0 : ∀ i, vaddN 0 i = i := fun i => by simp only [qaddN, Nat.zero_add]
 have es1 : vb .sub .i64 size 1 = sz1 := by rw [qb, sub_i64 (by omega) (by omega), hsz1]
 have ew1 : vw .u64 sz1 = sz1 := by rw [qw]; exact wrap_u64 (by omega) (by omega)
 have hlnq : ∀ l, vln l = l.length := fun l => by rw [qln]
 cbv
 refine call_conX (ρ := [(0, .z), (1, .z), (2, .z), (3, .z)]) g2 ⟨by rfl, by rfl, by rfl, by cbv; exact ⟨view_refl _, trivial⟩⟩ ?_ ?_
 rotate_left
 ·rintro v H R js ⟨e, hg, rfl, rfl, a, h, i, rfl⟩
  cbv
  exact ⟨[0, 1, 2, 3], .iface 75 (.agg [.int .i64 e]), [(.one 81 [.fn 39 [.ptr 1 .z 1 0, .ptr 2 .z 1 0], .int .u64 a, .int .i64 h, .fn 40 [.ptr 2 .z 1 0, .ptr 1 .z 1 0]]), .one 3 [.int .i64 i], .one 22 [.slice 3 .z 1 bl cap], .ro .u8 b], rfl, rfl, rfl, rfl, ⟨rfl, rfl, rfl, rfl, trivial⟩, e, k0 e hg, rfl, rfl, a, h, i, rfl⟩
 rintro v H R js ⟨x, q, hg, rfl, rfl, acc2, hv2, ai2, h2, rfl⟩
 obtain ⟨hx0, hx4, _⟩ := hx x q hg
 obtain ⟨n, hn⟩ : ∃ n : Nat, n = x.toNat + 1 := ⟨_, rfl⟩
 obtain ⟨nI, hnI⟩ : ∃ nI : Int, nI = n := ⟨_, rfl⟩
 have en : vb .add .i64 1 x = nI := by rw [qb, add_i64 (by omega) (by omega)]; omega
 obtain ⟨r1, hr1⟩ : ∃ r1, r1 = SY (x.toNat + 1) q [] := ⟨_, rfl⟩
 have hr1n : SY n q [] = r1 := by rw [hr1, hn]
 cbv
 rw [en]
 refine WX.cv (Cv.nilT 6 3 .i64 (by rfl) (by cbv) (Cv.here ?_))
 cbv
 refine loop_fam (α := Int × List Int × Nat × Nat × Nat × Int × Int × Int) ([7] ++ (List.range' 19 16)) [5]
  (fun (k, l, rl, c, p, acc, hv, ai) => [(18, .int .i64 k), (6, .slice 5 .z 1 rl c)])
  (fun (k, l, rl, c, p, acc, hv, ai) => [(0, .one 81 [.fn 39 [.ptr 1 .z 1 0, .ptr 2 .z 1 0], .int .u64 acc, .int .i64 hv, .fn 40 [.ptr 2 .z 1 0, .ptr 1 .z 1 0]]), (1, .one 3 [.int .i64 ai]), (5, .buf 3 .i64 l c)])
  (fun (k, l, rl, c, p, acc, hv, ai) => ∃ i : Nat, k = i ∧ i ≤ n ∧ rl = l.length ∧ l.length = i ∧ rl ≤ c ∧ RS b p acc hv ai ∧ SY (n - i) p l = r1 ∧ ∀ j, j < i → 0 ≤ l.getD j 0 ∧ l.getD j 0 < size)
  (fun (k, l, rl, c, p, acc, hv, ai) => n - k.toNat) hw hm ?_ ?_
 ·refine Cv.genAt [18] [0, 1] (Cv.fold ([7] ++ (List.range' 19 16)) 6 [5] (by exact Nat.le_refl _) (by exact Nat.le_of_ble_eq_true rfl) (by rfl) (by cbv) ?_)
  intro js
  refine ⟨(_, _, _, _, q, _, _, _), ?_, js, rfl⟩
  exact ⟨0, rfl, by omega, rfl, rfl, by omega, h2, hr1n, fun j hj => absurd hj (by omega)⟩
 rintro ⟨k, l, rl, c, p, acc3, hv3, ai3⟩ js ⟨i, hk, hi, hrl, hli, hrc, h3, hSY, hlb⟩
 have hti : vtoN k = i := by rw [hk]; exact hto i
 cbv
 split
 ·rename_i hlt
  have hlt : i < n := by rw [qc, lss_true] at hlt; simp only [nc] at *; omega
  obtain ⟨m, hm1⟩ : ∃ m, n - i = m + 1 := ⟨n - i - 1, by omega⟩
  rw [hm1] at hSY
  have gwp := gw p acc3 hv3 ai3 h3
  cbv
  rw [es1, ew1]
  refine call_con (ρ := []) hlen ⟨by rfl, by rfl, by rfl, by cbv⟩ ?_
  rintro v H R js2 ⟨rfl, rfl, rfl⟩
  cbv
  refine call_conX (ρ := [(0, .z), (1, .z), (2, .z), (3, .z)]) gwp ⟨by rfl, by rfl, by rfl, by cbv; exact ⟨view_refl _, trivial⟩⟩ ?_ ?_
  rotate_left
  ·rintro v H R js3 ⟨e, hge, rfl, rfl, a, h, i2, rfl⟩
   have hS1 : r1 = .error e := by rw [← hSY]; exact s1 _ _ _ _ hge
   cbv
   exact ⟨[0, 1, 2, 3], .iface 75 (.agg [.int .i64 e]), [(.one 81 [.fn 39 [.ptr 1 .z 1 0, .ptr 2 .z 1 0], .int .u64 a, .int .i64 h, .fn 40 [.ptr 2 .z 1 0, .ptr 1 .z 1 0]]), .one 3 [.int .i64 i2], .one 22 [.slice 3 .z 1 bl cap], .ro .u8 b], rfl, rfl, rfl, rfl, ⟨rfl, rfl, rfl, rfl, trivial⟩, e, k1 x q e hg (by rw [← hr1]; exact hS1), rfl, rfl, a, h, i2, rfl⟩
  rintro v H R js3 ⟨s, q2, hgs, rfl, rfl, acc4, hv4, ai4, h4, rfl⟩
  have hsr := hsy p s q2 hgs
  cbv
  refine call_conX (ρ := []) (hmust _) ⟨by rfl, by rfl, by rfl, by cbv⟩ ?_ ?_
  rotate_left
  ·rintro v H R js4 ⟨hz, rfl, rfl, rfl⟩
   have hS1 : r1 = .error 11 := by rw [← hSY]; refine s3 _ _ _ _ _ hgs ?_; rw [qc, lss_false] at hz; exact hz
   cbv
   exact ⟨[0, 1, 2, 3], .iface 75 (.agg [.int .i64 11]), [(.one 81 [.fn 39 [.ptr 1 .z 1 0, .ptr 2 .z 1 0], .int .u64 acc4, .int .i64 hv4, .fn 40 [.ptr 2 .z 1 0, .ptr 1 .z 1 0]]), .one 3 [.int .i64 ai4], .one 22 [.slice 3 .z 1 bl cap], .ro .u8 b], rfl, rfl, rfl, rfl, ⟨rfl, rfl, rfl, rfl, trivial⟩, 11, k1 x q 11 hg (by rw [← hr1]; exact hS1), rfl, rfl, acc4, hv4, ai4, rfl⟩
  rintro v H R js4 ⟨hz, rfl, rfl, rfl⟩
  have hsl : s < size := by rw [qc, lss_true] at hz; exact hz
  have hS1 : SY m q2 (l ++ [s]) = r1 := by rw [← hSY]; exact (s2 _ _ _ _ _ hgs hsl).symm
  have hsub : vsub [s] 0 1 = [s] := by simp only [qsub]; rfl
  have honto : vonto l rl [s] = l ++ [s] := by rw [qonto, hrl]; simp
  have ha1 : vaddN rl 1 = rl + 1 := by simp only [qaddN]
  have ha01 : vaddN 0 1 = 1 := by simp only [qaddN]
  have hln1 : vln [s] = 1 := by rw [hlnq]; rfl
  have hvl : vln l = rl := by rw [hlnq, hrl]
  obtain ⟨l2, hl2⟩ : ∃ l2, l2 = l ++ [s] := ⟨_, rfl⟩
  rw [← hl2] at honto hS1
  obtain ⟨rl2, hrl2⟩ : ∃ rl2, rl2 = rl + 1 := ⟨_, rfl⟩
  have hl2l : l2.length = i + 1 := by rw [hl2]; simp [hli]
  have hl2g : ∀ j, j < i + 1 → 0 ≤ l2.getD j 0 ∧ l2.getD j 0 < size := by
   intro j hj
   rw [hl2, List.getD_eq_getElem?_getD]
   rcases Nat.lt_or_ge j i with hlt2 | hge2
   ·rw [List.getElem?_append_left (by omega), ← List.getD_eq_getElem?_getD]; exact hlb j hlt2
   ·have : j = l.length := by omega
    subst this
    simp
    omega
  obtain ⟨k1, hk1⟩ : ∃ k1 : Int, k1 = ((i + 1 : Nat) : Int) := ⟨_, rfl⟩
  have ek : vb .add .i64 k 1 = k1 := by simp only [nc] at *; rw [qb, add_i64 (by omega) (by omega)]; omega
  have hmu : n - k1.toNat < n - k.toNat := by simp only [nc] at *; omega
  have hn4 : n ≤ 4 := by omega
  rw [← hrl2] at ha1
  cbv
  refine ⟨⟨by rw [ha01, hln1]; exact Nat.le_refl _⟩, ⟨by rw [hvl]; exact Nat.le_refl _⟩, ⟨Nat.le_refl _⟩, ⟨by rw [ha1]; omega⟩, ?_⟩
  intro c2 js5 hc2
  have hc3 : vaddN rl 1 ≤ c2 := hc2.1
  rw [ha1] at hc3
  cbv
  rw [hsub, honto, ha1, ek]
  refine Cv.fold ([7] ++ (List.range' 19 16)) 6 [5] (by exact Nat.le_refl _) (by exact Nat.le_of_ble_eq_true rfl) (by rfl) (by cbv) ?_
  intro js
  refine ⟨(_, _, _, _, q2, _, _, _), ?_, js, rfl⟩
  exact ⟨⟨i + 1, hk1, hlt, by omega, hl2l, hc3, h4, by rw [show n - (i + 1) = m by omega]; exact hS1, hl2g⟩, hmu⟩
 ·rename_i hge
  have hin : i = n := by rw [qc, lss_false] at hge; simp only [nc] at *; omega
  subst hin
  have hl1 : r1 = .ok (l, p) := by rw [← hSY, Nat.sub_self]; exact s0 p l
  have hvl : vln l = rl := by rw [hlnq, hrl]
  have hgd : ∀ j, vgd l j = l.getD j 0 := fun j => by rw [qgd]
  obtain ⟨rlI, hrlI⟩ : ∃ rlI : Int, rlI = rl := ⟨_, rfl⟩
  have hofn : vofN rl = rlI := by rw [qofN]; exact hrlI.symm
  have hn4 : i ≤ 4 := by omega
  have hcl := fun n c s (hn : n ≤ l.length) => hcon l n c s hn (by omega)
  cbv
  rw [hofn]
  refine loop_fam (α := Int) ([8, 9] ++ (List.range' 38 12)) [5]
   (fun k => [(37, .int .i64 k)]) (fun _ => [])
   (fun k => ∃ j : Nat, k = j ∧ j ≤ i ∧ ∀ m, m < j → ∀ q, q < m → l.getD q 0 ≠ l.getD m 0) (fun k => i - k.toNat) hw hm ?_ ?_
  ·refine Cv.genAt [37] [] (Cv.fold ([8, 9] ++ (List.range' 38 12)) 6 [5] (by exact Nat.le_refl _) (by exact Nat.le_of_ble_eq_true rfl) (by rfl) (by cbv) ?_)
   intro js
   refine ⟨_, ?_, js, rfl⟩
   exact ⟨0, rfl, by omega, fun m hm => absurd hm (by omega)⟩
  rintro kk js ⟨j, hk2, hj, hne⟩
  have htj : vtoN kk = j := by rw [hk2]; exact hto j
  cbv
  split
  ·rename_i hlt
   have hlt : j < i := by rw [qc, lss_true] at hlt; simp only [nc] at *; omega
   have hinR : 0 ≤ kk ∧ kk < (rl : Int) := by simp only [nc] at *; omega
   have hinC : 0 ≤ kk ∧ kk ≤ (c : Int) := by simp only [nc] at *; omega
   obtain ⟨s, hs2⟩ : ∃ s, s = l.getD j 0 := ⟨_, rfl⟩
   have hcon1 := hcl j c s (by omega)
   obtain ⟨k3, hk3⟩ : ∃ k3 : Int, k3 = ((j + 1 : Nat) : Int) := ⟨_, rfl⟩
   have ek3 : vb .add .i64 kk 1 = k3 := by simp only [nc] at *; rw [qb, add_i64 (by omega) (by omega)]; omega
   have hmu2 : i - k3.toNat < i - kk.toNat := by simp only [nc] at *; omega
   cbv
   rw [htj, hadd0, hgd, ← hs2]
   refine ⟨⟨hinR⟩, ⟨by omega⟩, ⟨by omega⟩, ⟨hinC⟩, ?_⟩
   refine call_con (ρ := [(5, .z)]) hcon1 ⟨by rfl, by rfl, by rfl, by cbv; exact ⟨view_refl _, trivial⟩⟩ ?_
   rintro v H R js2 ⟨z, rfl, hz, rfl, rfl⟩
   cbv
   refine call_conX (ρ := []) (hmust _) ⟨by rfl, by rfl, by rfl, by cbv⟩ ?_ ?_
   rotate_left
   ·rintro v H R js4 ⟨hz2, rfl, rfl, rfl⟩
    have hz3 : z = true := by rw [qnotB] at hz2; simpa using hz2
    obtain ⟨q5, hq5, hq6⟩ := hz.1 hz3
    have hnd2 := hnn (l := l) (j := j) (q := q5) (by omega) hq5 (by rw [hq6, hs2])
    cbv
    exact ⟨[0, 1, 2, 3], .iface 75 (.agg [.int .i64 11]), [(.one 81 [.fn 39 [.ptr 1 .z 1 0, .ptr 2 .z 1 0], .int .u64 acc3, .int .i64 hv3, .fn 40 [.ptr 2 .z 1 0, .ptr 1 .z 1 0]]), .one 3 [.int .i64 ai3], .one 22 [.slice 3 .z 1 bl cap], .ro .u8 b], rfl, rfl, rfl, rfl, ⟨rfl, rfl, rfl, rfl, trivial⟩, 11, k2 x q l p hg (by rw [← hr1]; exact hl1) hnd2, rfl, rfl, acc3, hv3, ai3, rfl⟩
   rintro v H R js4 ⟨hz2, rfl, rfl, rfl⟩
   have hz3 : z = false := by rw [qnotB] at hz2; simpa using hz2
   cbv
   rw [ek3]
   refine Cv.fold ([8, 9] ++ (List.range' 38 12)) 6 [5] (by exact Nat.le_refl _) (by exact Nat.le_of_ble_eq_true rfl) (by rfl) (by cbv) ?_
   intro js
   refine ⟨_, ?_, js, rfl⟩
   refine ⟨⟨j + 1, hk3, hlt, fun m hm q5 hq5 => ?_⟩, hmu2⟩
   rcases Nat.lt_or_ge m j with h7 | h7
   ·exact hne m h7 q5 hq5
   ·have : m = j := by omega
    subst this
    intro he
    rw [hz3] at hz
    have := hz.2 ⟨q5, hq5, by rw [he, hs2]⟩
    cases this
  ·rename_i hge2
   have hjn : j = i := by rw [qc, lss_false] at hge2; simp only [nc] at *; omega
   subst hjn
   have hND : ND l := hnd (fun m hm => hne m (by omega))
   have hgl : ∀ q5, q5 < j → 0 ≤ l.getD q5 0 ∧ l.getD q5 0 < size := hlb
   clear hne hlb hcl hcon hnd hnn s1 s2 s3 hsy hSY
   have hx4' : x = 0 ∨ x = 1 ∨ x = 2 ∨ x = 3 := by omega
   rcases hx4' with rfl | rfl | rfl | rfl
   ·have hj1 : j = 1 := by omega
    subst hj1
    have hnI1 : nI = 1 := by rw [hnI]; rfl
    have hk3' := k3 q l p hg (by rw [← hl1, hr1]; rfl) hND
    subst hnI1
    have e11 : vc .eql 1 1 = true := by rw [qc]; rfl
    cbv
    rw [e11]
    cbv
    rw [hadd0, hgd]
    refine ⟨⟨by simp only [nc] at *; omega⟩, ⟨by omega⟩, ⟨by omega⟩, ?_⟩
    exact ⟨[0, 1, 2, 3], .agg [.val (.slice none 0 0), .int .i64 (l.getD 0 0)], [(.one 81 [.fn 39 [.ptr 1 .z 1 0, .ptr 2 .z 1 0], .int .u64 acc3, .int .i64 hv3, .fn 40 [.ptr 2 .z 1 0, .ptr 1 .z 1 0]]), .one 3 [.int .i64 ai3], .one 22 [.slice 3 .z 1 bl cap], .ro .u8 b], rfl, rfl, rfl, rfl, ⟨rfl, rfl, rfl, rfl, trivial⟩, .inl (l.getD 0 0), p, hk3', rfl, acc3, hv3, ai3, h3, .inl ⟨_, rfl, rfl, rfl⟩⟩
   ·have hj1 : j = 2 := by omega
    subst hj1
    have hnI1 : nI = 2 := by rw [hnI]; rfl
    have hk := k6 q l p hg (by rw [← hl1, hr1]; rfl) hND
    subst hnI1
    have e11 : vc .eql 2 1 = false := by rw [qc]; rfl
    have e12 : vc .eql 2 4 = false := by rw [qc]; rfl
    have ht2 : vtoN 2 = 2 := hto 2
    cbv
    rw [e11]
    cbv
    rw [ht2]
    cbv
    refine ⟨⟨by decide⟩, ?_⟩
    rw [e12]
    cbv
    obtain ⟨S, hS⟩ : ∃ S, S = size.toNat := ⟨_, rfl⟩
    rw [← hS] at hk
    have htS : vtoN size = S := by rw [qtoN]; exact hS.symm
    have hrep : vrep S 0 = List.replicate S 0 := by rw [qrep]
    obtain ⟨g, hg7⟩ : ∃ g : List Int, g = [1, 1] := ⟨_, rfl⟩
    obtain ⟨Lf, hLf⟩ : ∃ Lf, Lf = PS (List.replicate S 0) l [1, 1] := ⟨_, rfl⟩
    rw [← hLf] at hk
    rw [← hg7] at hLf
    obtain ⟨L0, hL0⟩ : ∃ L0, L0 = List.replicate S (0 : Int) := ⟨_, rfl⟩
    rw [← hL0] at hrep hLf
    have hL0l : L0.length = S := by rw [hL0]; simp
    have hgl7 : g.length = 2 := by rw [hg7]; rfl
    have hgg : ∀ j, vgd g j = g.getD j 0 := fun j => by rw [qgd]
    have hlg : vln g = 2 := by rw [hlnq]; exact hgl7
    have hst : ∀ L i v, vst L i v = L.set i v := fun L i v => by rw [qst]
    have hrl2 : rl = 2 := by omega
    have hrlI2 : rlI = 2 := by rw [hrlI, hrl2]; rfl
    rw [hofn]
    refine ⟨⟨by omega⟩, ⟨by omega⟩, ⟨by omega⟩, ⟨by show size * 1 ≤ 281474976710656; omega⟩, ?_⟩
    rw [htS, hrep]
    refine loop_fam (α := Int × List Int) ([12, 13] ++ (List.range' 77 13)) [5]
     (fun (kk, L) => [(76, .int .i64 kk)]) (fun (kk, L) => [(10, .ints 5 .u8 L)])
     (fun (kk, L) => ∃ j2 : Nat, kk = j2 ∧ j2 ≤ 2 ∧ L.length = S ∧ PS L (l.drop j2) (g.drop j2) = Lf) (fun (kk, L) => 2 - kk.toNat) hw hm ?_ ?_
    ·refine Cv.genAt [76] [] (Cv.fold ([12, 13] ++ (List.range' 77 13)) 12 [5] (by exact Nat.le_refl _) (by exact Nat.le_of_ble_eq_true rfl) (by rfl) (by cbv) ?_)
     intro js
     refine ⟨(_, _), ?_, js, rfl⟩
     exact ⟨0, rfl, by omega, hL0l, hLf.symm⟩
    rintro ⟨kk2, L⟩ js ⟨j2, hkk2, hj2, hLl, hPS⟩
    have htj2 : vtoN kk2 = j2 := by rw [hkk2]; exact hto j2
    cbv
    split
    ·rename_i hlt
     have hlt : j2 < 2 := by rw [qc, lss_true, hrlI2] at hlt; simp only [nc] at *; omega
     have hinR : 0 ≤ kk2 ∧ kk2 < (rl : Int) := by simp only [nc] at *; omega
     have hinR2 : 0 ≤ kk2 ∧ kk2 < ((2 : Nat) : Int) := by simp only [nc] at *; omega
     obtain ⟨s, hs2⟩ : ∃ s, s = l.getD j2 0 := ⟨_, rfl⟩
     have hsb := hgl j2 hlt
     rw [← hs2] at hsb
     have hts : vtoN s = s.toNat := by rw [qtoN]
     obtain ⟨k5, hk5⟩ : ∃ k5 : Int, k5 = ((j2 + 1 : Nat) : Int) := ⟨_, rfl⟩
     have ek5 : vb .add .i64 kk2 1 = k5 := by simp only [nc] at *; rw [qb, add_i64 (by omega) (by omega)]; omega
     have hmu2 : 2 - k5.toNat < 2 - kk2.toNat := by simp only [nc] at *; omega
     have hPS2 := pd (L := L) (l := l) (g := g) (i := j2) (by omega) (by omega)
     rw [hPS, ← hs2] at hPS2
     obtain ⟨L2, hL2⟩ : ∃ L2, L2 = L.set s.toNat (g.getD j2 0) := ⟨_, rfl⟩
     have hL2l : L2.length = S := by rw [hL2]; simp [hLl]
     rw [← hL2] at hPS2
     have hvL : vln L = S := by rw [hlnq]; exact hLl
     have hsS : s.toNat < S := by omega
     cbv
     rw [htj2, hadd0, hgd, ← hs2, hts, show vgd [1, 1] j2 = g.getD j2 0 by rw [← hg7]; exact hgg j2, hst, ← hL2]
     refine ⟨⟨hinR⟩, ⟨by rw [hvl]; omega⟩, ⟨by rw [hvl]; omega⟩, ⟨hinR2⟩, ⟨by rw [hlnq]; exact hlt⟩, ⟨by constructor <;> simp only [nc] at * <;> omega⟩, ⟨by rw [hvL]; exact hsS⟩, ?_⟩
     rw [ek5]
     refine Cv.fold ([12, 13] ++ (List.range' 77 13)) 12 [5] (by exact Nat.le_refl _) (by exact Nat.le_of_ble_eq_true rfl) (by rfl) (by cbv) ?_
     intro js
     refine ⟨(_, _), ?_, js, rfl⟩
     exact ⟨⟨j2 + 1, hk5, hlt, hL2l, hPS2.symm⟩, hmu2⟩
    ·rename_i hge3
     have hj3 : j2 = 2 := by rw [qc, lss_false, hrlI2] at hge3; simp only [nc] at *; omega
     subst hj3
     have hLL : L = Lf := by
      rw [← hPS, List.drop_eq_nil_of_le (by omega), pn]
     rw [← hLL] at hk
     clear hLf hPS hLL hS htS hrep hL0 hL0l
     cbv
     subst hLl
     exact ⟨[0, 1, 2, 3, 10], .agg [.slice 4 .z 1 L.length L.length, .lit .i64 0], [(.one 81 [.fn 39 [.ptr 1 .z 1 0, .ptr 2 .z 1 0], .int .u64 acc3, .int .i64 hv3, .fn 40 [.ptr 2 .z 1 0, .ptr 1 .z 1 0]]), .one 3 [.int .i64 ai3], .one 22 [.slice 3 .z 1 bl cap], .ro .u8 b, .ints 5 .u8 L], rfl, rfl, rfl, rfl, ⟨rfl, rfl, rfl, rfl, rfl, trivial⟩, .inr L, p, hk, rfl, acc3, hv3, ai3, h3, .inr ⟨_, rfl, rfl, rfl⟩⟩
   ·have hj1 : j = 3 := by omega
    subst hj1
    have hnI1 : nI = 3 := by rw [hnI]; rfl
    have hk := k7 q l p hg (by rw [← hl1, hr1]; rfl) hND
    subst hnI1
    have e11 : vc .eql 3 1 = false := by rw [qc]; rfl
    have e12 : vc .eql 3 4 = false := by rw [qc]; rfl
    have ht2 : vtoN 3 = 3 := hto 3
    cbv
    rw [e11]
    cbv
    rw [ht2]
    cbv
    refine ⟨⟨by decide⟩, ?_⟩
    rw [e12]
    cbv
    obtain ⟨S, hS⟩ : ∃ S, S = size.toNat := ⟨_, rfl⟩
    rw [← hS] at hk
    have htS : vtoN size = S := by rw [qtoN]; exact hS.symm
    have hrep : vrep S 0 = List.replicate S 0 := by rw [qrep]
    obtain ⟨g, hg7⟩ : ∃ g : List Int, g = [1, 2, 2] := ⟨_, rfl⟩
    obtain ⟨Lf, hLf⟩ : ∃ Lf, Lf = PS (List.replicate S 0) l [1, 2, 2] := ⟨_, rfl⟩
    rw [← hLf] at hk
    rw [← hg7] at hLf
    obtain ⟨L0, hL0⟩ : ∃ L0, L0 = List.replicate S (0 : Int) := ⟨_, rfl⟩
    rw [← hL0] at hrep hLf
    have hL0l : L0.length = S := by rw [hL0]; simp
    have hgl7 : g.length = 3 := by rw [hg7]; rfl
    have hgg : ∀ j, vgd g j = g.getD j 0 := fun j => by rw [qgd]
    have hlg : vln g = 3 := by rw [hlnq]; exact hgl7
    have hst : ∀ L i v, vst L i v = L.set i v := fun L i v => by rw [qst]
    have hrl2 : rl = 3 := by omega
    have hrlI2 : rlI = 3 := by rw [hrlI, hrl2]; rfl
    rw [hofn]
    refine ⟨⟨by omega⟩, ⟨by omega⟩, ⟨by omega⟩, ⟨by show size * 1 ≤ 281474976710656; omega⟩, ?_⟩
    rw [htS, hrep]
    refine loop_fam (α := Int × List Int) ([12, 13] ++ (List.range' 77 13)) [5]
     (fun (kk, L) => [(76, .int .i64 kk)]) (fun (kk, L) => [(10, .ints 5 .u8 L)])
     (fun (kk, L) => ∃ j2 : Nat, kk = j2 ∧ j2 ≤ 3 ∧ L.length = S ∧ PS L (l.drop j2) (g.drop j2) = Lf) (fun (kk, L) => 3 - kk.toNat) hw hm ?_ ?_
    ·refine Cv.genAt [76] [] (Cv.fold ([12, 13] ++ (List.range' 77 13)) 12 [5] (by exact Nat.le_refl _) (by exact Nat.le_of_ble_eq_true rfl) (by rfl) (by cbv) ?_)
     intro js
     refine ⟨(_, _), ?_, js, rfl⟩
     exact ⟨0, rfl, by omega, hL0l, hLf.symm⟩
    rintro ⟨kk2, L⟩ js ⟨j2, hkk2, hj2, hLl, hPS⟩
    have htj2 : vtoN kk2 = j2 := by rw [hkk2]; exact hto j2
    cbv
    split
    ·rename_i hlt
     have hlt : j2 < 3 := by rw [qc, lss_true, hrlI2] at hlt; simp only [nc] at *; omega
     have hinR : 0 ≤ kk2 ∧ kk2 < (rl : Int) := by simp only [nc] at *; omega
     have hinR2 : 0 ≤ kk2 ∧ kk2 < ((3 : Nat) : Int) := by simp only [nc] at *; omega
     obtain ⟨s, hs2⟩ : ∃ s, s = l.getD j2 0 := ⟨_, rfl⟩
     have hsb := hgl j2 hlt
     rw [← hs2] at hsb
     have hts : vtoN s = s.toNat := by rw [qtoN]
     obtain ⟨k5, hk5⟩ : ∃ k5 : Int, k5 = ((j2 + 1 : Nat) : Int) := ⟨_, rfl⟩
     have ek5 : vb .add .i64 kk2 1 = k5 := by simp only [nc] at *; rw [qb, add_i64 (by omega) (by omega)]; omega
     have hmu2 : 3 - k5.toNat < 3 - kk2.toNat := by simp only [nc] at *; omega
     have hPS2 := pd (L := L) (l := l) (g := g) (i := j2) (by omega) (by omega)
     rw [hPS, ← hs2] at hPS2
     obtain ⟨L2, hL2⟩ : ∃ L2, L2 = L.set s.toNat (g.getD j2 0) := ⟨_, rfl⟩
     have hL2l : L2.length = S := by rw [hL2]; simp [hLl]
     rw [← hL2] at hPS2
     have hvL : vln L = S := by rw [hlnq]; exact hLl
     have hsS : s.toNat < S := by omega
     cbv
     rw [htj2, hadd0, hgd, ← hs2, hts, show vgd [1, 2, 2] j2 = g.getD j2 0 by rw [← hg7]; exact hgg j2, hst, ← hL2]
     refine ⟨⟨hinR⟩, ⟨by rw [hvl]; omega⟩, ⟨by rw [hvl]; omega⟩, ⟨hinR2⟩, ⟨by rw [hlnq]; exact hlt⟩, ⟨by constructor <;> simp only [nc] at * <;> omega⟩, ⟨by rw [hvL]; exact hsS⟩, ?_⟩
     rw [ek5]
     refine Cv.fold ([12, 13] ++ (List.range' 77 13)) 12 [5] (by exact Nat.le_refl _) (by exact Nat.le_of_ble_eq_true rfl) (by rfl) (by cbv) ?_
     intro js
     refine ⟨(_, _), ?_, js, rfl⟩
     exact ⟨⟨j2 + 1, hk5, hlt, hL2l, hPS2.symm⟩, hmu2⟩
    ·rename_i hge3
     have hj3 : j2 = 3 := by rw [qc, lss_false, hrlI2] at hge3; simp only [nc] at *; omega
     subst hj3
     have hLL : L = Lf := by
      rw [← hPS, List.drop_eq_nil_of_le (by omega), pn]
     rw [← hLL] at hk
     clear hLf hPS hLL hS htS hrep hL0 hL0l
     cbv
     subst hLl
     exact ⟨[0, 1, 2, 3, 10], .agg [.slice 4 .z 1 L.length L.length, .lit .i64 0], [(.one 81 [.fn 39 [.ptr 1 .z 1 0, .ptr 2 .z 1 0], .int .u64 acc3, .int .i64 hv3, .fn 40 [.ptr 2 .z 1 0, .ptr 1 .z 1 0]]), .one 3 [.int .i64 ai3], .one 22 [.slice 3 .z 1 bl cap], .ro .u8 b, .ints 5 .u8 L], rfl, rfl, rfl, rfl, ⟨rfl, rfl, rfl, rfl, rfl, trivial⟩, .inr L, p, hk, rfl, acc3, hv3, ai3, h3, .inr ⟨_, rfl, rfl, rfl⟩⟩
   ·have hj1 : j = 4 := by omega
    subst hj1
    have hnI1 : nI = 4 := by rw [hnI]; rfl
    have hS4 : SY 4 q [] = .ok (l, p) := by rw [← hl1, hr1]; rfl
    subst hnI1
    have e11 : vc .eql 4 1 = false := by rw [qc]; rfl
    have e12 : vc .eql 4 4 = true := by rw [qc]; rfl
    have ht2 : vtoN 4 = 4 := hto 4
    have g1p := g1 p acc3 hv3 ai3 h3
    cbv
    rw [e11]
    cbv
    rw [ht2]
    cbv
    refine ⟨⟨by decide⟩, ?_⟩
    rw [e12]
    cbv
    refine call_conX (ρ := [(0, .z), (1, .z), (2, .z), (3, .z)]) g1p ⟨by rfl, by rfl, by rfl, by cbv; exact ⟨view_refl _, trivial⟩⟩ ?_ ?_
    rotate_left
    ·rintro v H R js3 ⟨e, hge, rfl, rfl, a, h, i2, rfl⟩
     cbv
     exact ⟨[0, 1, 2, 3], .iface 75 (.agg [.int .i64 e]), [(.one 81 [.fn 39 [.ptr 1 .z 1 0, .ptr 2 .z 1 0], .int .u64 a, .int .i64 h, .fn 40 [.ptr 2 .z 1 0, .ptr 1 .z 1 0]]), .one 3 [.int .i64 i2], .one 22 [.slice 3 .z 1 bl cap], .ro .u8 b], rfl, rfl, rfl, rfl, ⟨rfl, rfl, rfl, rfl, trivial⟩, e, k4 q l p e hg hS4 hND hge, rfl, rfl, a, h, i2, rfl⟩
    rintro v H R js3 ⟨y, q3, hgy, rfl, rfl, acc4, hv4, ai4, h4, rfl⟩
    have hk := k5 q l p y q3 hg hS4 hND hgy
    have hy2 := hy p y q3 hgy
    have hy3 : y = 0 ∨ y = 1 := by omega
    cbv
    rcases hy3 with rfl | rfl
    ·rw [gv0] at hk
     have e13 : vc .eql 0 1 = false := by rw [qc]; rfl
     rw [e13]
     cbv
     obtain ⟨S, hS⟩ : ∃ S, S = size.toNat := ⟨_, rfl⟩
     rw [← hS] at hk
     have htS : vtoN size = S := by rw [qtoN]; exact hS.symm
     have hrep : vrep S 0 = List.replicate S 0 := by rw [qrep]
     obtain ⟨g, hg7⟩ : ∃ g : List Int, g = [2, 2, 2, 2] := ⟨_, rfl⟩
     obtain ⟨Lf, hLf⟩ : ∃ Lf, Lf = PS (List.replicate S 0) l [2, 2, 2, 2] := ⟨_, rfl⟩
     rw [← hLf] at hk
     rw [← hg7] at hLf
     obtain ⟨L0, hL0⟩ : ∃ L0, L0 = List.replicate S (0 : Int) := ⟨_, rfl⟩
     rw [← hL0] at hrep hLf
     have hL0l : L0.length = S := by rw [hL0]; simp
     have hgl7 : g.length = 4 := by rw [hg7]; rfl
     have hgg : ∀ j, vgd g j = g.getD j 0 := fun j => by rw [qgd]
     have hlg : vln g = 4 := by rw [hlnq]; exact hgl7
     have hst : ∀ L i v, vst L i v = L.set i v := fun L i v => by rw [qst]
     have hrl2 : rl = 4 := by omega
     have hrlI2 : rlI = 4 := by rw [hrlI, hrl2]; rfl
     rw [hofn]
     refine ⟨⟨by omega⟩, ⟨by omega⟩, ⟨by omega⟩, ⟨by show size * 1 ≤ 281474976710656; omega⟩, ?_⟩
     rw [htS, hrep]
     refine loop_fam (α := Int × List Int) ([12, 13] ++ (List.range' 77 13)) [5]
      (fun (kk, L) => [(76, .int .i64 kk)]) (fun (kk, L) => [(10, .ints 5 .u8 L)])
      (fun (kk, L) => ∃ j2 : Nat, kk = j2 ∧ j2 ≤ 4 ∧ L.length = S ∧ PS L (l.drop j2) (g.drop j2) = Lf) (fun (kk, L) => 4 - kk.toNat) hw hm ?_ ?_
     ·refine Cv.genAt [76] [] (Cv.fold ([12, 13] ++ (List.range' 77 13)) 12 [5] (by exact Nat.le_refl _) (by exact Nat.le_of_ble_eq_true rfl) (by rfl) (by cbv) ?_)
      intro js
      refine ⟨(_, _), ?_, js, rfl⟩
      exact ⟨0, rfl, by omega, hL0l, hLf.symm⟩
     rintro ⟨kk2, L⟩ js ⟨j2, hkk2, hj2, hLl, hPS⟩
     have htj2 : vtoN kk2 = j2 := by rw [hkk2]; exact hto j2
     cbv
     split
     ·rename_i hlt
      have hlt : j2 < 4 := by rw [qc, lss_true, hrlI2] at hlt; simp only [nc] at *; omega
      have hinR : 0 ≤ kk2 ∧ kk2 < (rl : Int) := by simp only [nc] at *; omega
      have hinR2 : 0 ≤ kk2 ∧ kk2 < ((4 : Nat) : Int) := by simp only [nc] at *; omega
      obtain ⟨s, hs2⟩ : ∃ s, s = l.getD j2 0 := ⟨_, rfl⟩
      have hsb := hgl j2 hlt
      rw [← hs2] at hsb
      have hts : vtoN s = s.toNat := by rw [qtoN]
      obtain ⟨k5, hk5⟩ : ∃ k5 : Int, k5 = ((j2 + 1 : Nat) : Int) := ⟨_, rfl⟩
      have ek5 : vb .add .i64 kk2 1 = k5 := by simp only [nc] at *; rw [qb, add_i64 (by omega) (by omega)]; omega
      have hmu2 : 4 - k5.toNat < 4 - kk2.toNat := by simp only [nc] at *; omega
      have hPS2 := pd (L := L) (l := l) (g := g) (i := j2) (by omega) (by omega)
      rw [hPS, ← hs2] at hPS2
      obtain ⟨L2, hL2⟩ : ∃ L2, L2 = L.set s.toNat (g.getD j2 0) := ⟨_, rfl⟩
      have hL2l : L2.length = S := by rw [hL2]; simp [hLl]
      rw [← hL2] at hPS2
      have hvL : vln L = S := by rw [hlnq]; exact hLl
      have hsS : s.toNat < S := by omega
      cbv
      rw [htj2, hadd0, hgd, ← hs2, hts, show vgd [2, 2, 2, 2] j2 = g.getD j2 0 by rw [← hg7]; exact hgg j2, hst, ← hL2]
      refine ⟨⟨hinR⟩, ⟨by rw [hvl]; omega⟩, ⟨by rw [hvl]; omega⟩, ⟨hinR2⟩, ⟨by rw [hlnq]; exact hlt⟩, ⟨by constructor <;> simp only [nc] at * <;> omega⟩, ⟨by rw [hvL]; exact hsS⟩, ?_⟩
      rw [ek5]
      refine Cv.fold ([12, 13] ++ (List.range' 77 13)) 12 [5] (by exact Nat.le_refl _) (by exact Nat.le_of_ble_eq_true rfl) (by rfl) (by cbv) ?_
      intro js
      refine ⟨(_, _), ?_, js, rfl⟩
      exact ⟨⟨j2 + 1, hk5, hlt, hL2l, hPS2.symm⟩, hmu2⟩
     ·rename_i hge3
      have hj3 : j2 = 4 := by rw [qc, lss_false, hrlI2] at hge3; simp only [nc] at *; omega
      subst hj3
      have hLL : L = Lf := by
       rw [← hPS, List.drop_eq_nil_of_le (by omega), pn]
      rw [← hLL] at hk
      clear hLf hPS hLL hS htS hrep hL0 hL0l
      cbv
      subst hLl
      exact ⟨[0, 1, 2, 3, 10], .agg [.slice 4 .z 1 L.length L.length, .lit .i64 0], [(.one 81 [.fn 39 [.ptr 1 .z 1 0, .ptr 2 .z 1 0], .int .u64 acc4, .int .i64 hv4, .fn 40 [.ptr 2 .z 1 0, .ptr 1 .z 1 0]]), .one 3 [.int .i64 ai4], .one 22 [.slice 3 .z 1 bl cap], .ro .u8 b, .ints 5 .u8 L], rfl, rfl, rfl, rfl, ⟨rfl, rfl, rfl, rfl, rfl, trivial⟩, .inr L, q3, hk, rfl, acc4, hv4, ai4, h4, .inr ⟨_, rfl, rfl, rfl⟩⟩
    ·rw [gv1] at hk
     have e13 : vc .eql 1 1 = true := by rw [qc]; rfl
     rw [e13]
     cbv
     obtain ⟨S, hS⟩ : ∃ S, S = size.toNat := ⟨_, rfl⟩
     rw [← hS] at hk
     have htS : vtoN size = S := by rw [qtoN]; exact hS.symm
     have hrep : vrep S 0 = List.replicate S 0 := by rw [qrep]
     obtain ⟨g, hg7⟩ : ∃ g : List Int, g = [1, 2, 3, 3] := ⟨_, rfl⟩
     obtain ⟨Lf, hLf⟩ : ∃ Lf, Lf = PS (List.replicate S 0) l [1, 2, 3, 3] := ⟨_, rfl⟩
     rw [← hLf] at hk
     rw [← hg7] at hLf
     obtain ⟨L0, hL0⟩ : ∃ L0, L0 = List.replicate S (0 : Int) := ⟨_, rfl⟩
     rw [← hL0] at hrep hLf
     have hL0l : L0.length = S := by rw [hL0]; simp
     have hgl7 : g.length = 4 := by rw [hg7]; rfl
     have hgg : ∀ j, vgd g j = g.getD j 0 := fun j => by rw [qgd]
     have hlg : vln g = 4 := by rw [hlnq]; exact hgl7
     have hst : ∀ L i v, vst L i v = L.set i v := fun L i v => by rw [qst]
     have hrl2 : rl = 4 := by omega
     have hrlI2 : rlI = 4 := by rw [hrlI, hrl2]; rfl
     rw [hofn]
     refine ⟨⟨by omega⟩, ⟨by omega⟩, ⟨by omega⟩, ⟨by show size * 1 ≤ 281474976710656; omega⟩, ?_⟩
     rw [htS, hrep]
     refine loop_fam (α := Int × List Int) ([12, 13] ++ (List.range' 77 13)) [5]
      (fun (kk, L) => [(76, .int .i64 kk)]) (fun (kk, L) => [(11, .ints 5 .u8 L)])
      (fun (kk, L) => ∃ j2 : Nat, kk = j2 ∧ j2 ≤ 4 ∧ L.length = S ∧ PS L (l.drop j2) (g.drop j2) = Lf) (fun (kk, L) => 4 - kk.toNat) hw hm ?_ ?_
     ·refine Cv.genAt [76] [] (Cv.fold ([12, 13] ++ (List.range' 77 13)) 13 [5] (by exact Nat.le_refl _) (by exact Nat.le_of_ble_eq_true rfl) (by rfl) (by cbv) ?_)
      intro js
      refine ⟨(_, _), ?_, js, rfl⟩
      exact ⟨0, rfl, by omega, hL0l, hLf.symm⟩
     rintro ⟨kk2, L⟩ js ⟨j2, hkk2, hj2, hLl, hPS⟩
     have htj2 : vtoN kk2 = j2 := by rw [hkk2]; exact hto j2
     cbv
     split
     ·rename_i hlt
      have hlt : j2 < 4 := by rw [qc, lss_true, hrlI2] at hlt; simp only [nc] at *; omega
      have hinR : 0 ≤ kk2 ∧ kk2 < (rl : Int) := by simp only [nc] at *; omega
      have hinR2 : 0 ≤ kk2 ∧ kk2 < ((4 : Nat) : Int) := by simp only [nc] at *; omega
      obtain ⟨s, hs2⟩ : ∃ s, s = l.getD j2 0 := ⟨_, rfl⟩
      have hsb := hgl j2 hlt
      rw [← hs2] at hsb
      have hts : vtoN s = s.toNat := by rw [qtoN]
      obtain ⟨k5, hk5⟩ : ∃ k5 : Int, k5 = ((j2 + 1 : Nat) : Int) := ⟨_, rfl⟩
      have ek5 : vb .add .i64 kk2 1 = k5 := by simp only [nc] at *; rw [qb, add_i64 (by omega) (by omega)]; omega
      have hmu2 : 4 - k5.toNat < 4 - kk2.toNat := by simp only [nc] at *; omega
      have hPS2 := pd (L := L) (l := l) (g := g) (i := j2) (by omega) (by omega)
      rw [hPS, ← hs2] at hPS2
      obtain ⟨L2, hL2⟩ : ∃ L2, L2 = L.set s.toNat (g.getD j2 0) := ⟨_, rfl⟩
      have hL2l : L2.length = S := by rw [hL2]; simp [hLl]
      rw [← hL2] at hPS2
      have hvL : vln L = S := by rw [hlnq]; exact hLl
      have hsS : s.toNat < S := by omega
      cbv
      rw [htj2, hadd0, hgd, ← hs2, hts, show vgd [1, 2, 3, 3] j2 = g.getD j2 0 by rw [← hg7]; exact hgg j2, hst, ← hL2]
      refine ⟨⟨hinR⟩, ⟨by rw [hvl]; omega⟩, ⟨by rw [hvl]; omega⟩, ⟨hinR2⟩, ⟨by rw [hlnq]; exact hlt⟩, ⟨by constructor <;> simp only [nc] at * <;> omega⟩, ⟨by rw [hvL]; exact hsS⟩, ?_⟩
      rw [ek5]
      refine Cv.fold ([12, 13] ++ (List.range' 77 13)) 13 [5] (by exact Nat.le_refl _) (by exact Nat.le_of_ble_eq_true rfl) (by rfl) (by cbv) ?_
      intro js
      refine ⟨(_, _), ?_, js, rfl⟩
      exact ⟨⟨j2 + 1, hk5, hlt, hL2l, hPS2.symm⟩, hmu2⟩
     ·rename_i hge3
      have hj3 : j2 = 4 := by rw [qc, lss_false, hrlI2] at hge3; simp only [nc] at *; omega
      subst hj3
      have hLL : L = Lf := by
       rw [← hPS, List.drop_eq_nil_of_le (by omega), pn]
      rw [← hLL] at hk
      clear hLf hPS hLL hS htS hrep hL0 hL0l
      cbv
      subst hLl
      exact ⟨[0, 1, 2, 3, 11], .agg [.slice 4 .z 1 L.length L.length, .lit .i64 0], [(.one 81 [.fn 39 [.ptr 1 .z 1 0, .ptr 2 .z 1 0], .int .u64 acc4, .int .i64 hv4, .fn 40 [.ptr 2 .z 1 0, .ptr 1 .z 1 0]]), .one 3 [.int .i64 ai4], .one 22 [.slice 3 .z 1 bl cap], .ro .u8 b, .ints 5 .u8 L], rfl, rfl, rfl, rfl, ⟨rfl, rfl, rfl, rfl, rfl, trivial⟩, .inr L, q3, hk, rfl, acc4, hv4, ai4, h4, .inr ⟨_, rfl, rfl, rfl⟩⟩
end Go.Proofs.Ytkkddgdcmdnnmaa
namespace Go.Proofs.Ytkkddgdcmdnnmaa
open Go Go.Sx Go.Proofs
set_option maxRecDepth 10000
def ordL : List Int := [1, 2, 3, 4, 0, 5, 17, 6, 16, 7, 8, 9, 10, 11, 12, 13, 14, 15]
theorem ordL_range (i : Nat) : 0 ≤ ordL.getD i 0 ∧ ordL.getD i 0 < 18 := by
 rcases Nat.lt_or_ge i 18 with h | h
 ·revert i; decide
 ·have : ordL.getD i 0 = 0 := by rw [List.getD_eq_getElem?_getD, List.getElem?_eq_none (by exact h)]; rfl
  omega
def innR (b : List Int) : Nat → Nat → Nat → List Int → Int → Int → Int → Except Int ((List Int × Int × Int × Int) × Nat)
 | 0, _, p, L, left, cnt, one => .ok ((L, left, cnt, one), p)
 | k + 1, i, p, L, left, cnt, one => match smR b p with
  | .error e => .error e
  | .ok (x, q) => if x = 0 then innR b k (i + 1) q L left cnt one
   else if left - 32 / 2 ^ x.toNat ≤ 0 then .ok ((L.set (ordL.getD i 0).toNat x, left - 32 / 2 ^ x.toNat, cnt + 1, ordL.getD i 0), q)
   else innR b k (i + 1) q (L.set (ordL.getD i 0).toNat x) (left - 32 / 2 ^ x.toNat) (cnt + 1) (ordL.getD i 0)
def innerR (b : List Int) (skip p : Nat) : Except Int ((Int ⊕ List Int) × Nat) :=
 match innR b (18 - skip) skip p (List.replicate 18 0) 32 0 0 with
 | .error e => .error e
 | .ok ((L, left, cnt, one), q) => if cnt = 1 then .ok (.inl one, q) else if left = 0 then .ok (.inr L, q) else .error 11
end Go.Proofs.Ytkkddgdcmdnnmaa
namespace Go.Proofs.Ytkkddgdcmdnnmaa
open Go Go.Sx Go.Proofs
set_option maxRecDepth 10000
set_option maxHeartbeats 4000000
def pw (x : Int) : Int := if x > 0 then 2 ^ (15 - x).toNat else 0
def tot : List Int → Int
 | [] => 0
 | x :: l => pw x + tot l
theorem pw0 : pw 0 = 0 := rfl
theorem pw_nonneg (x : Int) : 0 ≤ pw x := by
 unfold pw; split
 ·exact Int.le_of_lt (Int.pow_pos (by omega))
 ·exact Int.le_refl _
theorem pw_le {x : Int} : pw x ≤ 16384 := by
 unfold pw; split
 ·have hq : (2 : Int) ^ (15 - x).toNat ≤ 2 ^ 14 := pow_up (by omega)
  exact hq
 ·decide
theorem tot_app : ∀ (l m : List Int), tot (l ++ m) = tot l + tot m
 | [], m => by simp [tot]
 | x :: l, m => by simp only [List.cons_append, tot, tot_app l m]; omega
theorem tot_rep (x : Int) : ∀ m : Nat, tot (List.replicate m x) = m * pw x
 | 0 => by simp [tot]
 | m + 1 => by
  simp only [List.replicate_succ, tot, tot_rep x m]
  rw [show ((m + 1 : Nat) : Int) = (m : Int) + 1 from rfl, Int.add_mul]; omega
theorem tot_set : ∀ (l : List Int) (i : Nat) (x : Int), i < l.length → tot (l.set i x) = tot l - pw (l.getD i 0) + pw x
 | [], i, x, h => by simp at h
 | y :: l, 0, x, h => by simp only [List.set_cons_zero, tot, List.getD_cons_zero]; omega
 | y :: l, i + 1, x, h => by
  simp only [List.set_cons_succ, tot, List.getD_cons_succ, tot_set l i x (by simpa using h)]; omega
theorem ks_tot (l : List Int) : ∀ i : Nat, ks l i = tot (l.take i)
 | 0 => by simp [ks, tot]
 | i + 1 => by
  simp only [ks, ks_tot l i]
  by_cases h : i < l.length
  ·rw [List.take_add_one, tot_app, List.getD_eq_getElem?_getD, List.getElem?_eq_getElem h]
   simp [tot, pw]
  ·rw [List.getD_eq_getElem?_getD, List.getElem?_eq_none (by omega), List.take_of_length_le (by omega), List.take_of_length_le (by omega)]
   simp
theorem ks_nz (l : List Int) : ∀ i : Nat, ks l i ≤ 16384 * nz l i
 | 0 => by simp [ks, nz]
 | i + 1 => by
  have := ks_nz l i
  simp only [ks, nz]
  have hp := @pw_le (l.getD i 0)
  unfold pw at hp
  split <;> simp_all <;> omega
theorem right_of {l : List Int} (h1 : l.length ≤ 1024) (h2 : ∀ x ∈ l, 0 ≤ x ∧ x ≤ 15) (h3 : tot l = 32768) : Right5 l ∧ (∀ x ∈ l, isU8 x) ∧ Rt l := by
 have hu : ∀ x ∈ l, isU8 x := fun x hx => by have := h2 x hx; exact ⟨this.1, by omega⟩
 have hk : ks l l.length = 32768 := by rw [ks_tot, List.take_length, h3]
 have hn := ks_nz l l.length
 have h5 : Right5 l := by
  refine ⟨h1, fun i _ => ?_, by omega, hk⟩
  rcases getD_mem_or5 (l := l) i with hh | hh
  ·exact (h2 _ hh).2
  ·omega
 exact ⟨h5, hu, h5.rt hu⟩
theorem mem_set_or {l : List Int} {i : Nat} {x y : Int} (h : y ∈ l.set i x) : y ∈ l ∨ y = x := by
 rcases List.mem_or_eq_of_mem_set h with h | h
 ·exact .inl h
 ·exact .inr h
theorem getD_set_ne {l : List Int} {i j : Nat} {x : Int} (h : i ≠ j) : (l.set i x).getD j 0 = l.getD j 0 := by
 rw [List.getD_eq_getElem?_getD, List.getD_eq_getElem?_getD, List.getElem?_set_ne h]
theorem ordL_inj : ∀ i, i < 18 → ∀ j, j < 18 → (ordL.getD i 0).toNat = (ordL.getD j 0).toNat → i = j := by decide
theorem smR_pos {b : List Int} {p q : Nat} {x : Int} (h : smR b p = .ok (x, q)) (hp : p ≤ 8 * b.length) : p ≤ q ∧ q ≤ 8 * b.length := by
 unfold smR at h
 split at h
 ·cases h
 rename_i x q1 h1
 have g1 := gt_ok h1
 repeat' split at h
 all_goals first | (cases h; done) | skip
 all_goals simp only [Except.ok.injEq, Prod.mk.injEq] at h
 all_goals obtain ⟨_, rfl⟩ := h
 ·rename_i h2 _
  have g2 := gt_ok (by assumption : gt b 1 q1 = .ok (_, _))
  omega
 ·rename_i h2 _ _ _ _ h3 _
  have g2 := gt_ok h2
  have g3 := gt_ok h3
  omega
 ·omega
 ·omega
theorem innR_spec {b : List Int} : ∀ (k i p : Nat) (L : List Int) (left cnt one : Int) (L2 : List Int) (left2 cnt2 one2 : Int) (q : Nat), i + k ≤ 18 → L.length = 18 → (∀ x ∈ L, 0 ≤ x ∧ x ≤ 15) → tot L + 1024 * left = 32768 → (∀ j, i ≤ j → j < 18 → L.getD (ordL.getD j 0).toNat 0 = 0) →
  (0 ≤ one ∧ one < 18) → p ≤ 8 * b.length → innR b k i p L left cnt one = .ok ((L2, left2, cnt2, one2), q) → L2.length = 18 ∧ (∀ x ∈ L2, 0 ≤ x ∧ x ≤ 15) ∧ tot L2 + 1024 * left2 = 32768 ∧ 0 ≤ one2 ∧ one2 < 18 ∧ p ≤ q ∧ q ≤ 8 * b.length
 | 0, i, p, L, left, cnt, one, L2, left2, cnt2, one2, q, hk, hl, hm, ht, h0, ho, hp, h => by
  simp only [innR, Except.ok.injEq, Prod.mk.injEq] at h
  obtain ⟨⟨rfl, rfl, rfl, rfl⟩, rfl⟩ := h
  exact ⟨hl, hm, ht, ho.1, ho.2, Nat.le_refl _, hp⟩
 | k + 1, i, p, L, left, cnt, one, L2, left2, cnt2, one2, q, hk, hl, hm, ht, h0, ho, hp, h => by
  simp only [innR] at h
  split at h
  ·cases h
  rename_i x q1 hx
  have hxr := smR_ok hx
  have hq1 := smR_pos hx hp
  split at h
  ·obtain ⟨a1, a2, a3, a4, a5, a6, a7⟩ := innR_spec k (i + 1) q1 L left cnt one L2 left2 cnt2 one2 q (by omega) hl hm ht (fun j hj => h0 j (by omega)) ho hq1.2 h
   exact ⟨a1, a2, a3, a4, a5, by omega, a7⟩
  ·rename_i hx0
   have hr := ordL_range i
   have h00 := h0 i (Nat.le_refl _) (by omega)
   have htot := tot_set L (ordL.getD i 0).toNat x (by omega)
   rw [h00, pw0] at htot
   have hpw : pw x = 1024 * (32 / 2 ^ x.toNat) := by
    have : x = 1 ∨ x = 2 ∨ x = 3 ∨ x = 4 ∨ x = 5 := by omega
    rcases this with rfl | rfl | rfl | rfl | rfl <;> decide
   have hm2 : ∀ y ∈ L.set (ordL.getD i 0).toNat x, 0 ≤ y ∧ y ≤ 15 := fun y hy => by
    rcases mem_set_or hy with h | rfl
    ·exact hm y h
    ·omega
   split at h
   ·simp only [Except.ok.injEq, Prod.mk.injEq] at h
    obtain ⟨⟨rfl, rfl, rfl, rfl⟩, rfl⟩ := h
    exact ⟨by simp [hl], hm2, by omega, hr.1, hr.2, hq1.1, hq1.2⟩
   ·obtain ⟨a1, a2, a3, a4, a5, a6, a7⟩ := innR_spec k (i + 1) q1 _ _ _ _ L2 left2 cnt2 one2 q (by omega) (by simp [hl]) hm2 (by omega) (fun j hj hj2 => by
     rw [getD_set_ne (fun e => ?_)]
     ·exact h0 j (by omega) hj2
     ·have := ordL_inj i (by omega) j hj2 e
      omega) hr hq1.2 h
    exact ⟨a1, a2, a3, a4, a5, by omega, a7⟩
def InnOk : (Int ⊕ List Int) → Prop
 | .inl n => 0 ≤ n ∧ n < 18
 | .inr L => L.length = 18 ∧ Right5 L ∧ (∀ x ∈ L, isU8 x) ∧ Rt L
theorem innerR_ok {b : List Int} {skip p q : Nat} {c : Int ⊕ List Int} (hs : skip ≤ 18) (hp : p ≤ 8 * b.length) (h : innerR b skip p = .ok (c, q)) : InnOk c ∧ p ≤ q ∧ q ≤ 8 * b.length := by
 unfold innerR at h
 split at h
 ·cases h
 rename_i L left cnt one q1 hi
 obtain ⟨a1, a2, a3, a4, a5, a6, a7⟩ := innR_spec (18 - skip) skip p (List.replicate 18 0) 32 0 0 _ _ _ _ _ (by omega) (by decide) (by decide) (by decide) (fun j _ hj => (show ∀ j, j < 18 → (List.replicate 18 (0 : Int)).getD (ordL.getD j 0).toNat 0 = 0 by decide) j hj) (by decide) hp hi
 split at h
 ·simp only [Except.ok.injEq, Prod.mk.injEq] at h
  obtain ⟨rfl, rfl⟩ := h
  exact ⟨⟨a4, a5⟩, a6, a7⟩
 ·split at h
  ·rename_i hl0
   simp only [Except.ok.injEq, Prod.mk.injEq] at h
   obtain ⟨rfl, rfl⟩ := h
   exact ⟨⟨a1, right_of (by omega) a2 (by rw [hl0] at a3; omega)⟩, a6, a7⟩
  ·cases h
theorem putS_spec : ∀ (l g L : List Int) (S : Nat), l.length = g.length → L.length = S → l.Nodup → (∀ s ∈ l, 0 ≤ s ∧ s < S) → (∀ s ∈ l, L.getD s.toNat 0 = 0) → (∀ x ∈ L, 0 ≤ x ∧ x ≤ 15) → (∀ x ∈ g, 0 ≤ x ∧ x ≤ 15) →
  (putS L l g).length = S ∧ (∀ x ∈ putS L l g, 0 ≤ x ∧ x ≤ 15) ∧ tot (putS L l g) = tot L + tot g
 | [], g, L, S, h1, h2, _, _, _, h6, _ => by
  obtain rfl : g = [] := List.eq_nil_of_length_eq_zero (by simpa using h1.symm)
  exact ⟨h2, h6, by simp [putS, tot]⟩
 | s :: l, [], L, S, h1, _, _, _, _, _, _ => by simp at h1
 | s :: l, y :: g, L, S, h1, h2, h3, h4, h5, h6, h7 => by
  simp only [putS]
  have hs := h4 s (by simp)
  have hs0 := h5 s (by simp)
  obtain ⟨h3a, h3b⟩ := List.nodup_cons.1 h3
  have hy := h7 y (by simp)
  obtain ⟨a1, a2, a3⟩ := putS_spec l g (L.set s.toNat y) S (by simpa using h1) (by simp [h2]) h3b (fun t ht => h4 t (by simp [ht])) (fun t ht => by
   have ht4 := h4 t (by simp [ht])
   rw [getD_set_ne (fun e => h3a (by
    have : s = t := by omega
    rw [this]; exact ht))]
   exact h5 t (by simp [ht])) (fun z hz => by
   rcases mem_set_or hz with h | rfl
   ·exact h6 z h
   ·exact hy) (fun z hz => h7 z (by simp [hz]))
  refine ⟨a1, a2, ?_⟩
  rw [a3, tot_set L s.toNat y (by omega), hs0, pw0]
  simp only [tot]; omega
theorem symsR_ok {b : List Int} {w : Nat} {size : Int} : ∀ (k p : Nat) (l l2 : List Int) (q : Nat), (∀ s ∈ l, 0 ≤ s ∧ s < size) → p ≤ 8 * b.length → symsR b w size k p l = .ok (l2, q) → (∀ s ∈ l2, 0 ≤ s ∧ s < size) ∧ l2.length = l.length + k ∧ p ≤ q ∧ q ≤ 8 * b.length
 | 0, p, l, l2, q, hm, hp, h => by
  simp only [symsR, Except.ok.injEq, Prod.mk.injEq] at h
  obtain ⟨rfl, rfl⟩ := h
  exact ⟨hm, rfl, Nat.le_refl _, hp⟩
 | k + 1, p, l, l2, q, hm, hp, h => by
  simp only [symsR] at h
  split at h
  ·cases h
  rename_i s q1 hg
  have hgo := gt_ok hg
  split at h
  ·obtain ⟨a1, a2, a3, a4⟩ := symsR_ok k q1 (l ++ [s]) l2 q (fun t ht => by
    rcases List.mem_append.1 ht with h | h
    ·exact hm t h
    ·obtain rfl : t = s := by simpa using h
     omega) (by omega) h
   exact ⟨a1, by rw [a2]; simp; omega, by omega, a4⟩
  ·cases h
def CodeOk (size : Int) : (Int ⊕ List Int) → Prop
 | .inl n => 0 ≤ n ∧ n < size
 | .inr L => L.length = size.toNat ∧ Right5 L ∧ (∀ x ∈ L, isU8 x) ∧ Rt L
theorem fewR_ok {b : List Int} {size : Int} {p q : Nat} {c : Int ⊕ List Int} (hs : 1 ≤ size ∧ size ≤ 1024) (hp : p ≤ 8 * b.length) (h : fewR b size p = .ok (c, q)) : CodeOk size c ∧ p ≤ q ∧ q ≤ 8 * b.length := by
 unfold fewR at h
 split at h
 ·cases h
 rename_i x q1 hg
 have hgo := gt_ok hg
 split at h
 ·cases h
 rename_i l q2 hsy
 obtain ⟨a1, a2, a3, a4⟩ := symsR_ok _ _ _ _ _ (by simp) (by omega) hsy
 split at h
 rotate_left
 ·cases h
 rename_i hnd
 have key : ∀ g : List Int, g.length = l.length → (∀ y ∈ g, 0 ≤ y ∧ y ≤ 15) → tot g = 32768 → CodeOk size (.inr (putS (List.replicate size.toNat 0) l g)) := fun g hg1 hg2 hg3 => by
  obtain ⟨e1, e2, e3⟩ := putS_spec l g (List.replicate size.toNat 0) size.toNat hg1.symm (by simp) hnd (fun s hs => by have := a1 s hs; omega) (fun s hs => by
   rw [List.getD_eq_getElem?_getD]
   have := a1 s hs
   rw [List.getElem?_replicate, if_pos (by omega)]; rfl) (fun y hy => by
   have := (List.mem_replicate.1 hy).2
   omega) hg2
  refine ⟨e1, right_of (by omega) e2 ?_⟩
  rw [e3, tot_rep, pw0, hg3]; simp
 simp only [List.length_nil, Nat.zero_add] at a2
 split at h
 ·simp only [Except.ok.injEq, Prod.mk.injEq] at h
  obtain ⟨rfl, rfl⟩ := h
  have hx0 : x = 0 := by assumption
  subst hx0
  refine ⟨?_, by omega, a4⟩
  have : l.getD 0 0 ∈ l := by
   rw [List.getD_eq_getElem?_getD, List.getElem?_eq_getElem (by rw [a2]; decide)]
   simp
  exact a1 _ this
 ·split at h
  ·rename_i hx3
   split at h
   ·cases h
   rename_i y q3 hg3
   have hgo3 := gt_ok hg3
   simp only [Except.ok.injEq, Prod.mk.injEq] at h
   obtain ⟨rfl, rfl⟩ := h
   have hl4 : l.length = 4 := by rw [a2, hx3]; rfl
   have : y = 0 ∨ y = 1 := by omega
   rcases this with rfl | rfl
   ·exact ⟨key _ (by rw [hl4]; rfl) (by decide) (by decide), by omega, by omega⟩
   ·exact ⟨key _ (by rw [hl4]; rfl) (by decide) (by decide), by omega, by omega⟩
  ·simp only [Except.ok.injEq, Prod.mk.injEq] at h
   obtain ⟨rfl, rfl⟩ := h
   have : x = 1 ∨ x = 2 := by omega
   rcases this with rfl | rfl
   ·exact ⟨key _ (by rw [a2]; rfl) (by decide) (by decide), by omega, a4⟩
   ·exact ⟨key _ (by rw [a2]; rfl) (by decide) (by decide), by omega, a4⟩
end Go.Proofs.Ytkkddgdcmdnnmaa
namespace Go.Proofs.Ytkkddgdcmdnnmaa
open Go Go.Sx Go.Proofs
set_option maxRecDepth 10000
set_option maxHeartbeats 4000000
noncomputable def nxR (b : List Int) : (Int ⊕ List Int) → Nat → Except Int (Int × Nat)
 | .inl n, p => .ok (n, p)
 | .inr L, p => decR L b p
def rdN (size : Int) (F : Nat → Int → Int → Int → List Int → Int → Except Int ((List Int × Int) × Nat)) (q : Nat) (last row kind : Int) (lens : List Int) (left l m : Int) : Except Int ((List Int × Int) × Nat) :=
 if (lens.length : Int) + m ≤ size then
  (if left - m * pw l ≤ 0 ∨ (lens.length : Int) + m = size then .ok ((lens ++ List.replicate m.toNat l, left - m * pw l), q)
  else F q last row kind (lens ++ List.replicate m.toNat l) (left - m * pw l))
 else .error 11
def rdR (b : List Int) (nx : Nat → Except Int (Int × Nat)) (size : Int) : Nat → Nat → Int → Int → Int → List Int → Int → Except Int ((List Int × Int) × Nat)
 | 0, _, _, _, _, _, _ => .error 11
 | k + 1, p, last, row, kind, lens, left => match nx p with
  | .error e => .error e
  | .ok (x, q) => if x < 16 then rdN size (rdR b nx size k) q (if x > 0 then x else last) row 0 lens left x 1
   else match gt b (x - 14).toNat q with
    | .error e => .error e
    | .ok (n, q2) => rdN size (rdR b nx size k) q2 last ((if kind = x then (row - 2) * 2 ^ (x - 14).toNat else 0) + (3 + n)) x lens left (if x = 16 then last else 0)
      ((if kind = x then (row - 2) * 2 ^ (x - 14).toNat else 0) + (3 + n) - (if kind = x then row else 0))
noncomputable def readR (b : List Int) (size : Int) (p : Nat) : Except Int ((Int ⊕ List Int) × Nat) :=
 match gt b 2 p with
 | .error e => .error e
 | .ok (x, q) => if x = 1 then fewR b size q else match innerR b x.toNat q with
  | .error e => .error e
  | .ok (c, q2) => match rdR b (nxR b c) size size.toNat q2 8 0 0 [] 32768 with
   | .error e => .error e
   | .ok ((lens, left), q3) => if left = 0 then .ok (.inr (lens ++ List.replicate (size - lens.length).toNat 0), q3) else .error 11
theorem Dec.ok_range {l b : List Int} {p q : Nat} {s : Int} (h : Dec l b p s 0 q) : 0 ≤ s ∧ s < l.length ∧ p < q ∧ q ≤ 8 * b.length := by
 rcases h with ⟨L, i, h1, _, h3, _, _, h6, _, _, rfl, _, rfl⟩ | ⟨_, _, _, _, _, h, _⟩
 ·omega
 ·cases h
theorem decR_range {l b : List Int} {p q : Nat} {s : Int} (h : decR l b p = .ok (s, q)) : 0 ≤ s ∧ s < l.length ∧ p < q ∧ q ≤ 8 * b.length := by
 unfold decR at h
 split at h
 ·rename_i hx
  have := Classical.choose_spec hx
  simp only [Except.ok.injEq] at h
  rw [h] at this
  exact this.ok_range
 ·cases h
theorem nxR_range {b : List Int} {c : Int ⊕ List Int} (hc : InnOk c) {p q : Nat} {x : Int} (hp : p ≤ 8 * b.length) (h : nxR b c p = .ok (x, q)) : 0 ≤ x ∧ x < 18 ∧ p ≤ q ∧ q ≤ 8 * b.length := by
 cases c with
 | inl n =>
  simp only [nxR, Except.ok.injEq, Prod.mk.injEq] at h
  obtain ⟨rfl, rfl⟩ := h
  exact ⟨hc.1, hc.2, Nat.le_refl _, hp⟩
 | inr L =>
  have := decR_range h
  have hl := hc.1
  omega
section
variable {b : List Int} {nx : Nat → Except Int (Int × Nat)} {size : Int} {k p q q2 : Nat} {last row kind left x n e : Int} {lens : List Int}
theorem rdR_e (h : nx p = .error e) : rdR b nx size (k + 1) p last row kind lens left = .error e := by simp only [rdR, h]
theorem rdR_a (h : nx p = .ok (x, q)) (hx : x < 16) : rdR b nx size (k + 1) p last row kind lens left = rdN size (rdR b nx size k) q (if x > 0 then x else last) row 0 lens left x 1 := by simp only [rdR, h, if_pos hx]
theorem rdR_g (h : nx p = .ok (x, q)) (hx : ¬ x < 16) (hg : gt b (x - 14).toNat q = .error e) : rdR b nx size (k + 1) p last row kind lens left = .error e := by simp only [rdR, h, if_neg hx, hg]
theorem rdR_b (h : nx p = .ok (x, q)) (hx : ¬ x < 16) (hg : gt b (x - 14).toNat q = .ok (n, q2)) : rdR b nx size (k + 1) p last row kind lens left = rdN size (rdR b nx size k) q2 last ((if kind = x then (row - 2) * 2 ^ (x - 14).toNat else 0) + (3 + n)) x lens left (if x = 16 then last else 0)
  ((if kind = x then (row - 2) * 2 ^ (x - 14).toNat else 0) + (3 + n) - (if kind = x then row else 0)) := by simp only [rdR, h, if_neg hx, hg]
end
section
variable {size : Int} {F : Nat → Int → Int → Int → List Int → Int → Except Int ((List Int × Int) × Nat)} {q : Nat} {last row kind left l m : Int} {lens : List Int}
theorem rdN_pan (h : ¬ (lens.length : Int) + m ≤ size) : rdN size F q last row kind lens left l m = .error 11 := by unfold rdN; rw [if_neg h]
theorem rdN_stop (h : (lens.length : Int) + m ≤ size) (h2 : left - m * pw l ≤ 0 ∨ (lens.length : Int) + m = size) : rdN size F q last row kind lens left l m = .ok ((lens ++ List.replicate m.toNat l, left - m * pw l), q) := by unfold rdN; rw [if_pos h, if_pos h2]
theorem rdN_go (h : (lens.length : Int) + m ≤ size) (h2 : ¬ (left - m * pw l ≤ 0 ∨ (lens.length : Int) + m = size)) : rdN size F q last row kind lens left l m = F q last row kind (lens ++ List.replicate m.toNat l) (left - m * pw l) := by unfold rdN; rw [if_pos h, if_neg h2]
end
theorem rdR_ok {b : List Int} {nx : Nat → Except Int (Int × Nat)} {size : Int} (hnx : ∀ p x q, p ≤ 8 * b.length → nx p = .ok (x, q) → 0 ≤ x ∧ x < 18 ∧ p ≤ q ∧ q ≤ 8 * b.length) :
  ∀ (k p : Nat) (last row kind : Int) (lens : List Int) (left : Int) (L : List Int) (left2 : Int) (q : Nat), 1 ≤ last ∧ last ≤ 15 → p ≤ 8 * b.length → (∀ x ∈ lens, 0 ≤ x ∧ x ≤ 15) → tot lens + left = 32768 → (kind < 16 ∨ 3 ≤ row) →
   rdR b nx size k p last row kind lens left = .ok ((L, left2), q) → (∀ x ∈ L, 0 ≤ x ∧ x ≤ 15) ∧ tot L + left2 = 32768 ∧ (L.length : Int) ≤ size ∧ p ≤ q ∧ q ≤ 8 * b.length
 | 0, p, last, row, kind, lens, left, L, left2, q, h1, h2, h3, h4, h5, h => by simp [rdR] at h
 | k + 1, p, last, row, kind, lens, left, L, left2, q, h1, h2, h3, h4, h5, h => by
  have key : ∀ (q1 : Nat) (last row kind l m : Int), 1 ≤ last ∧ last ≤ 15 → p ≤ q1 → q1 ≤ 8 * b.length → (kind < 16 ∨ 3 ≤ row) → 0 ≤ l ∧ l ≤ 15 → 0 ≤ m → rdN size (rdR b nx size k) q1 last row kind lens left l m = .ok ((L, left2), q) →
    (∀ x ∈ L, 0 ≤ x ∧ x ≤ 15) ∧ tot L + left2 = 32768 ∧ (L.length : Int) ≤ size ∧ p ≤ q ∧ q ≤ 8 * b.length := fun q1 last row kind l m a1 a2 a3 a4 a5 a6 h => by
   have b1 : ∀ x ∈ lens ++ List.replicate m.toNat l, 0 ≤ x ∧ x ≤ 15 := fun x hx => by
    rcases List.mem_append.1 hx with hx | hx
    ·exact h3 x hx
    ·rw [(List.mem_replicate.1 hx).2]; exact a5
   have b2 : tot (lens ++ List.replicate m.toNat l) + (left - m * pw l) = 32768 := by
    rw [tot_app, tot_rep, show ((m.toNat : Nat) : Int) = m by omega]; omega
   by_cases hs : (lens.length : Int) + m ≤ size
   rotate_left
   ·rw [rdN_pan hs] at h; cases h
   by_cases hs2 : left - m * pw l ≤ 0 ∨ (lens.length : Int) + m = size
   ·rw [rdN_stop hs hs2] at h
    simp only [Except.ok.injEq, Prod.mk.injEq] at h
    obtain ⟨⟨rfl, rfl⟩, rfl⟩ := h
    exact ⟨b1, b2, by simp only [List.length_append, List.length_replicate]; omega, a2, a3⟩
   ·rw [rdN_go hs hs2] at h
    obtain ⟨c1, c2, c3, c4, c5⟩ := rdR_ok hnx k q1 last row kind _ _ L left2 q a1 a3 b1 b2 a4 h
    exact ⟨c1, c2, c3, by omega, c5⟩
  cases hx : nx p with
  | error e => rw [rdR_e hx] at h; cases h
  | ok xq =>
   obtain ⟨x, q1⟩ := xq
   have hr := hnx p x q1 h2 hx
   by_cases h16 : x < 16
   ·rw [rdR_a hx h16] at h
    refine key q1 _ _ _ _ _ ?_ hr.2.2.1 hr.2.2.2 (.inl (by decide)) ⟨hr.1, by omega⟩ (by decide) h
    split <;> omega
   ·cases hg : gt b (x - 14).toNat q1 with
    | error e => rw [rdR_g hx h16 hg] at h; cases h
    | ok nq =>
     obtain ⟨n, q2⟩ := nq
     rw [rdR_b hx h16 hg] at h
     have hgo := gt_ok hg
     have hx2 : x = 16 ∨ x = 17 := by omega
     refine key q2 _ _ _ _ _ h1 (by omega) (by omega) (.inr ?_) ?_ ?_ h
     ·split
      ·rcases hx2 with rfl | rfl <;> simp at * <;> omega
      ·omega
     ·split <;> omega
     ·split
      ·rcases hx2 with rfl | rfl <;> simp at * <;> omega
      ·omega
theorem readR_ok {b : List Int} {size : Int} {p q : Nat} {c : Int ⊕ List Int} (hs : 1 ≤ size ∧ size ≤ 1024) (hp : p ≤ 8 * b.length) (h : readR b size p = .ok (c, q)) : CodeOk size c ∧ q ≤ 8 * b.length := by
 unfold readR at h
 split at h
 ·cases h
 rename_i x q1 hg
 have hgo := gt_ok hg
 split at h
 ·have := fewR_ok hs (by omega) h
  exact ⟨this.1, this.2.2⟩
 split at h
 ·cases h
 rename_i c1 q2 hi
 have hin := innerR_ok (by omega) (by omega) hi
 split at h
 ·cases h
 rename_i lens left q3 hr
 obtain ⟨a1, a2, a3, a4, a5⟩ := rdR_ok (fun p x q hp hx => nxR_range hin.1 hp hx) _ _ _ _ _ _ _ _ _ _ (by decide) hin.2.2 (by simp) (by decide) (.inl (by decide)) hr
 split at h
 ·rename_i hl0
  simp only [Except.ok.injEq, Prod.mk.injEq] at h
  obtain ⟨rfl, rfl⟩ := h
  have hlen : (lens ++ List.replicate (size - lens.length).toNat 0).length = size.toNat := by simp; omega
  refine ⟨⟨hlen, right_of (by omega) (fun x hx => ?_) ?_⟩, a5⟩
  ·rcases List.mem_append.1 hx with hx | hx
   ·exact a1 x hx
   ·rw [(List.mem_replicate.1 hx).2]; decide
  ·rw [tot_app, tot_rep, pw0]; omega
 ·cases h
end Go.Proofs.Ytkkddgdcmdnnmaa
namespace Go.Proofs.Ytkkddgdcmdnnmaa
open Go Go.Sx Go.Proofs
set_option maxRecDepth 10000
set_option maxHeartbeats 4000000
def countR (b : List Int) (p : Nat) : Except Int (Int × Nat) :=
 match gt b 1 p with
 | .error e => .error e
 | .ok (x, q) => if x = 0 then .ok (1, q) else match gt b 3 q with
  | .error e => .error e
  | .ok (k, q2) => match gt b k.toNat q2 with
   | .error e => .error e
   | .ok (y, q3) => .ok (2 ^ k.toNat + 1 + y, q3)
def mvRow (row : List Int) (n : Nat) : List Int := row.getD n 0 :: (row.take n ++ row.drop (n + 1))
def mvS : List Int → List Int → List Int
 | _, [] => []
 | row, n :: l => row.getD n.toNat 0 :: mvS (mvRow row n.toNat) l
def row0 : List Int := (List.range 256).map fun (n : Nat) => (n : Int)
def mpL (b : List Int) (nx : Nat → Except Int (Int × Nat)) (runs size : Int) : Nat → Nat → List Int → Except Int (List Int × Nat)
 | 0, _, _ => .error 11
 | k + 1, p, l => if (l.length : Int) < size then (match nx p with
   | .error e => .error e
   | .ok (x, q) => if x > runs then mpL b nx runs size k q (l ++ [x - runs])
    else if x = 0 then mpL b nx runs size k q (l ++ [0])
    else match gt b x.toNat q with
     | .error e => .error e
     | .ok (y, q2) => if (l.length : Int) + (2 ^ x.toNat + y) ≤ size then mpL b nx runs size k q2 (l ++ List.replicate (2 ^ x.toNat + y).toNat 0) else .error 11)
  else .ok (l, p)
def runsR (b : List Int) (p : Nat) : Except Int (Int × Nat) :=
 match gt b 1 p with
 | .error e => .error e
 | .ok (x, q) => if x = 1 then (match gt b 4 q with
   | .error e => .error e
   | .ok (y, q2) => .ok (1 + y, q2)) else .ok (0, q)
def endR5 (b : List Int) (trees : Int) (l : List Int) (p : Nat) : Except Int (List Int × Nat) :=
 match gt b 1 p with
 | .error e => .error e
 | .ok (m, q) => if ∀ n ∈ (if m = 1 then mvS row0 l else l), n < trees then .ok ((if m = 1 then mvS row0 l else l), q) else .error 11
noncomputable def mapR (b : List Int) (trees size : Int) (p : Nat) : Except Int (List Int × Nat) :=
 match runsR b p with
 | .error e => .error e
 | .ok (runs, q) => match readR b (trees + runs) q with
  | .error e => .error e
  | .ok (c, q2) => match mpL b (nxR b c) runs size (size.toNat + 1) q2 [] with
   | .error e => .error e
   | .ok (l, q3) => endR5 b trees l q3
theorem mvRow_len {row : List Int} {n : Nat} (h : n < row.length) : (mvRow row n).length = row.length := by
 unfold mvRow; simp; omega
theorem mvRow_mem {row : List Int} {n : Nat} {x : Int} (hn : n < row.length) (h : x ∈ mvRow row n) : x ∈ row := by
 unfold mvRow at h
 rcases List.mem_cons.1 h with rfl | h
 ·rw [List.getD_eq_getElem?_getD, List.getElem?_eq_getElem hn]; simp
 ·rcases List.mem_append.1 h with h | h
  ·exact List.mem_of_mem_take h
  ·exact List.mem_of_mem_drop h
theorem mvS_len : ∀ (l row : List Int), (mvS row l).length = l.length
 | [], _ => rfl
 | n :: l, row => by simp only [mvS, List.length_cons, mvS_len l]
theorem nxC_range {b : List Int} {size : Int} {c : Int ⊕ List Int} (hs : 0 ≤ size) (hc : CodeOk size c) {p q : Nat} {x : Int} (hp : p ≤ 8 * b.length) (h : nxR b c p = .ok (x, q)) : 0 ≤ x ∧ x < size ∧ p ≤ q ∧ q ≤ 8 * b.length := by
 cases c with
 | inl n =>
  simp only [nxR, Except.ok.injEq, Prod.mk.injEq] at h
  obtain ⟨rfl, rfl⟩ := h
  exact ⟨hc.1, hc.2, Nat.le_refl _, hp⟩
 | inr L =>
  have := decR_range h
  have hl := hc.1
  omega
section
variable {b : List Int} {nx : Nat → Except Int (Int × Nat)} {runs size : Int} {k p q q2 : Nat} {l : List Int} {x y e : Int}
theorem mpL_end (h : ¬ (l.length : Int) < size) : mpL b nx runs size (k + 1) p l = .ok (l, p) := by simp only [mpL, if_neg h]
theorem mpL_e (h : (l.length : Int) < size) (hx : nx p = .error e) : mpL b nx runs size (k + 1) p l = .error e := by simp only [mpL, if_pos h, hx]
theorem mpL_a (h : (l.length : Int) < size) (hx : nx p = .ok (x, q)) (h1 : x > runs) : mpL b nx runs size (k + 1) p l = mpL b nx runs size k q (l ++ [x - runs]) := by simp only [mpL, if_pos h, hx, if_pos h1]
theorem mpL_z (h : (l.length : Int) < size) (hx : nx p = .ok (x, q)) (h1 : ¬ x > runs) (h0 : x = 0) : mpL b nx runs size (k + 1) p l = mpL b nx runs size k q (l ++ [0]) := by simp only [mpL, if_pos h, hx, if_neg h1, if_pos h0]
theorem mpL_g (h : (l.length : Int) < size) (hx : nx p = .ok (x, q)) (h1 : ¬ x > runs) (h0 : ¬ x = 0) (hg : gt b x.toNat q = .error e) : mpL b nx runs size (k + 1) p l = .error e := by simp only [mpL, if_pos h, hx, if_neg h1, if_neg h0, hg]
theorem mpL_p (h : (l.length : Int) < size) (hx : nx p = .ok (x, q)) (h1 : ¬ x > runs) (h0 : ¬ x = 0) (hg : gt b x.toNat q = .ok (y, q2)) (h2 : ¬ (l.length : Int) + (2 ^ x.toNat + y) ≤ size) : mpL b nx runs size (k + 1) p l = .error 11 := by simp only [mpL, if_pos h, hx, if_neg h1, if_neg h0, hg, if_neg h2]
theorem mpL_r (h : (l.length : Int) < size) (hx : nx p = .ok (x, q)) (h1 : ¬ x > runs) (h0 : ¬ x = 0) (hg : gt b x.toNat q = .ok (y, q2)) (h2 : (l.length : Int) + (2 ^ x.toNat + y) ≤ size) : mpL b nx runs size (k + 1) p l = mpL b nx runs size k q2 (l ++ List.replicate (2 ^ x.toNat + y).toNat 0) := by simp only [mpL, if_pos h, hx, if_neg h1, if_neg h0, hg, if_pos h2]
end
def isT (x : Int) : Prop := 0 ≤ x ∧ x < 256
theorem row0_len : row0.length = 256 := by unfold row0; simp
theorem row0_mem : ∀ x ∈ row0, isT x := by
 intro x hx
 unfold row0 at hx
 obtain ⟨n, hn, rfl⟩ := List.mem_map.1 hx
 have := List.mem_range.1 hn
 exact ⟨Int.natCast_nonneg n, by show (n : Int) < 256; omega⟩
theorem mvS_mem : ∀ (l row : List Int), row.length = 256 → (∀ x ∈ row, isT x) → (∀ x ∈ l, isT x) → ∀ x ∈ mvS row l, isT x
 | [], _, _, _, _, x, hx => by simp [mvS] at hx
 | n :: l, row, h1, h2, h3, x, hx => by
  have hn := h3 n (by simp)
  have hn2 : n.toNat < row.length := by unfold isT at hn; omega
  simp only [mvS] at hx
  rcases List.mem_cons.1 hx with rfl | hx
  ·refine h2 _ ?_
   rw [List.getD_eq_getElem?_getD, List.getElem?_eq_getElem hn2]; simp
  ·exact mvS_mem l (mvRow row n.toNat) (by rw [mvRow_len hn2]; exact h1) (fun y hy => h2 y (mvRow_mem hn2 hy)) (fun y hy => h3 y (by simp [hy])) x hx
end Go.Proofs.Ytkkddgdcmdnnmaa
