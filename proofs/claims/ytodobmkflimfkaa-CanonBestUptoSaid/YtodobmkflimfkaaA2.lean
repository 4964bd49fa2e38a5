import Derived.Test.YtodobmkflimfkaaA1
set_option linter.unusedVariables false
set_option linter.unusedSimpArgs false
namespace Go.Proofs.Ytodobmkflimfkaa
open Go Go.Sx Go.Proofs
/-! Two sorted rows become one (144), where one of them is of one coin. -/
set_option maxRecDepth 100000 in
set_option maxHeartbeats 4000000 in
theorem merge1_con (k : Nat → Int) (x l c p : Nat → Nat) (N C cap a m b : Nat) (hN : N ≤ 100000) (hma : m = a + 1) (hmb : m < b) (hb : b ≤ N) (hst : St k p) (hsr : Srt k p m b) :
    Con Try.prog 144 [.slice 0 .z 2 N cap, .int .i64 a, .int .i64 m, .int .i64 b, .fn 111 [.ptr 1 .z 1 0]] [coinB k x l c N C p, .one 110 [.fn 63 []]]
    (fun v H R => v = .tup [] ∧ R = [] ∧ ∃ q, (PermOn p q a b ∧ St k q ∧ Srt k q a b) ∧ H = [coinB k x l c N C q, .one 110 [.fn 63 []]]) := by
  have hcmp := cmpV_con
  have hsw := swp_rows k x l c
  refine con_gen (con_cut 2 (by simp) (con_drop (con_walk hmix fn144 ?_)))
  intro vb vc vw vtoN vofN vaddN vsubN vmaxI vminI vcutN vgd vst vln vrep vsub vonto vsplice vstrEq vbyteV vnotB veqB hw qb qc qw qtoN qofN qaddN qsubN qmaxI qminI qcutN qgd qst qln qrep qsub qonto qsplice qstrEq qbyteV qnotB qeqB
  have hm := hmix; generalize Try.prog = P at *
  have hadd : ∀ (x y : Int) (i j : Nat), x = i → y = j → i + j < 1000000 → vb .add .i64 x y = ((i + j : Nat) : Int) := fun x y i j h1 h2 h => by rw [qb, add_i64 (by omega) (by omega)]; omega
  have hsub : ∀ (x y : Int) (i j : Nat), x = i → y = j → j ≤ i → i < 1000000 → vb .sub .i64 x y = ((i - j : Nat) : Int) := fun x y i j h1 h2 h h' => by rw [qb, sub_i64 (by omega) (by omega)]; omega
  have hadd0 : ∀ i, vaddN 0 i = i := fun i => by simp only [qaddN, Nat.zero_add]
  have hsg : ∀ a b, vc .lss (sgnV a b) 0 = decide (a < b) := fun a b => by
    rw [qc]; simp only [cV]; rw [decide_eq_decide]; exact sgnV_lt
  have hhalf : ∀ (x y : Int) (i j : Nat), x = i → y = j → i + j < 1000000 → vw .i64 (vb .shr .u64 (vw .u64 (vb .add .i64 x y)) 1) = (((i + j) / 2 : Nat) : Int) := fun x y i j h1 h2 h => by
    rw [hadd x y i j h1 h2 h, qb, qw]; exact half_eq (by omega)
  have hswp := @swp_perm
  have hswst := @swp_st
  generalize hSg : sgnV = SG at *
  generalize haI : (a : Int) = aI at *
  generalize hbI : (b : Int) = bI at *
  generalize hmI : (m : Int) = mI at *
  have e1 : vc .eql (vb .sub .i64 mI aI) 1 = true := by rw [hsub mI aI m a hmI.symm haI.symm (by omega) (by omega), qc, eql_true]; omega
  have hrow : ∀ h, m ≤ h → h < b → (k (p h) < k (p a) → ∀ y, m ≤ y → y < h + 1 → k (p y) < k (p a)) ∧ (¬ k (p h) < k (p a) → ∀ y, h ≤ y → y < b → k (p a) ≤ k (p y)) := fun h h1 h2 =>
    ⟨fun h3 y h4 h5 => by
      by_cases e : y = h
      · subst e; exact h3
      · have := hsr y h h4 (by omega) h2; omega, fun h3 y h4 h5 => by
      by_cases e : y = h
      · subst e; omega
      · have := hsr h y h1 (by omega) h5; omega⟩
  have hup : ∀ i, m ≤ i → i ≤ b → (∀ y, m ≤ y → y < i → k (p y) < k (p a)) → (∀ y, i ≤ y → y < b → k (p a) ≤ k (p y)) → Up k p a a i b := fun i h1 h2 h3 h4 =>
    ⟨fun x y g1 g2 g3 g4 g5 => hsr x y (by omega) g2 g3, fun x g1 g2 => by omega, fun y g1 g2 => h3 y (by omega) g2, fun y g1 g2 g3 => h4 y g1 g2⟩
  have hinv0 : mI = m ∧ bI = b ∧ m ≤ m ∧ m ≤ b ∧ b ≤ b ∧ (∀ y, m ≤ y → y < m → k (p y) < k (p a)) ∧ (∀ y, b ≤ y → y < b → k (p a) ≤ k (p y)) := ⟨hmI.symm, hbI.symm, by omega, by omega, by omega, fun y h1 h2 => by omega, fun y h1 h2 => by omega⟩
  have hta : vtoN aI = a := by rw [qtoN, ← haI]; rfl
  have hra : InR aI N := ⟨by omega⟩
  have hla : a < N := by omega
  have hl0 : 0 < N := by omega
  have hlow : ∀ u : Int, u = vb .sub .i64 mI 1 → True := fun _ _ => trivial
  cbv
  rw [e1]
  cbv
  refine loop_fam (α := Int × Int × Nat × Nat) ([12] ++ [31, 32, 33, 34, 35, 36, 37, 38, 39, 40, 41, 42, 43, 44, 45, 46, 47, 48, 49, 50, 51, 52, 53]) []
    (fun (iI, jI, i, j) => [(10, .int .i64 iI), (11, .int .i64 jI)])
    (fun (iI, jI, i, j) => [])
    (fun (iI, jI, i, j) => iI = i ∧ jI = j ∧ m ≤ i ∧ i ≤ j ∧ j ≤ b ∧ (∀ y, m ≤ y → y < i → k (p y) < k (p a)) ∧ (∀ y, j ≤ y → y < b → k (p a) ≤ k (p y)))
    (fun (iI, jI, i, j) => j - i) hw hm ?_ ?_
  · refine Cv.fold ([12] ++ [31, 32, 33, 34, 35, 36, 37, 38, 39, 40, 41, 42, 43, 44, 45, 46, 47, 48, 49, 50, 51, 52, 53]) 2 [] (by exact Nat.le_refl _) (by exact Nat.le_of_ble_eq_true rfl) (by rfl) (by cbv) ?_
    intro js
    exact ⟨(_, _, _, _), hinv0, js, rfl⟩
  · rintro ⟨iI, jI, i, j⟩ js ⟨g1, g2, g3, g4, g5, g6, g7⟩
    clear hinv0
    cbv
    split
    rotate_left
    · rename_i hlt
      have hij : i = j := by rw [qc, lss_false] at hlt; simp only [nc] at *; omega
      have hU := hup i g3 (by omega) g6 (fun y h1 h2 => g7 y (by omega) h2)
      clear g6 g7 hrow hup hlt
      have hinv1 : aI = a ∧ a ≤ a ∧ PermOn p p a b ∧ St k p ∧ Up k p a a i b := ⟨haI.symm, by omega, PermOn.refl _ _ _, hst, hU⟩
      cbv
      refine loop_fam (α := Int × Nat × (Nat → Nat)) [55, 56, 57, 58, 59, 60, 61, 62, 63, 64, 65, 66, 67, 68, 69, 70, 71, 72, 73, 74, 75, 76] []
        (fun (cI, c', q) => [(13, .int .i64 cI)])
        (fun (cI, c', q) => [(0, coinB k x l c N C q)])
        (fun (cI, c', q) => cI = c' ∧ a ≤ c' ∧ PermOn p q a b ∧ St k q ∧ Up k q a c' i b)
        (fun (cI, c', q) => b - c') hw hm ?_ ?_
      · refine Cv.fold [55, 56, 57, 58, 59, 60, 61, 62, 63, 64, 65, 66, 67, 68, 69, 70, 71, 72, 73, 74, 75, 76] 2 [] (by exact Nat.le_refl _) (by exact Nat.le_of_ble_eq_true rfl) (by rfl) (by cbv) ?_
        intro js
        exact ⟨(_, _, _), hinv1, js, rfl⟩
      · rintro ⟨cI, c', q⟩ js2 ⟨f1, f2, f3, f4, f5⟩
        clear hinv1 hU
        have hs1 : vb .sub .i64 iI 1 = ((i - 1 : Nat) : Int) := hsub iI 1 i 1 g1 rfl (by omega) (by omega)
        have hcond : vc .lss cI (vb .sub .i64 iI 1) = decide (c' + 1 < i) := by
          rw [hs1, qc]; simp only [cV]; rw [decide_eq_decide]; omega
        by_cases hc : c' + 1 < i
        · have hc2 : vc .lss cI (vb .sub .i64 iI 1) = true := by rw [hcond]; simpa using hc
          have hk : k (q (c' + 1)) < k (q c') := f5.mid (c' + 1) (by omega) hc
          have hpm : PermOn p (swp q c' (c' + 1)) a b := f3.trans (hswp ⟨by omega, by omega⟩ ⟨by omega, by omega⟩)
          have hss : St k (swp q c' (c' + 1)) := hswst f4 (by omega)
          have hup2 : Up k (swp q c' (c' + 1)) a (c' + 1) i b := f5.next f2 hc (by omega)
          obtain ⟨c1, hc1⟩ : ∃ c1, c1 = c' + 1 := ⟨_, rfl⟩
          have hu0 : ∀ u : Int, u = vb .add .i64 cI 1 → u = ((c1 : Nat) : Int) ∧ vtoN u = c1 ∧ InR u N := fun u hu => by
            have e : u = ((c1 : Nat) : Int) := by rw [hu, hadd cI 1 c' 1 f1 rfl (by omega), hc1]
            exact ⟨e, by rw [qtoN, e]; rfl, ⟨by omega⟩⟩
          have htc : vtoN cI = c' := by rw [qtoN, f1]; rfl
          have hrc : InR cI N := ⟨by omega⟩
          have hlc : c' < N := by omega
          have hlc1 : c1 < N := by omega
          have hfin : ∀ u : Int, u = ((c1 : Nat) : Int) → (u = c1 ∧ a ≤ c1 ∧ PermOn p (swp q c' c1) a b ∧ St k (swp q c' c1) ∧ Up k (swp q c' c1) a c1 i b) ∧ b - c1 < b - c' := fun u hu => ⟨⟨hu, by omega, by rw [hc1]; exact hpm, by rw [hc1]; exact hss, by rw [hc1]; exact hup2⟩, by omega⟩
          clear f3 f4 f5 hpm hss hup2 hk hcond hs1 hst hsr
          generalize @PermOn = PO at *
          generalize @St = ST at *
          generalize @Up = UP at *
          generalize hSW : @swp = SW at *
          cbv
          rw [hc2]
          cbv
          obtain ⟨u, hu⟩ : ∃ u, u = vb .add .i64 cI 1 := ⟨_, rfl⟩
          obtain ⟨hu', htu, hru⟩ := hu0 u hu
          rw [← hu, htc, htu, hadd0, hadd0]
          cbv
          repeat (refine And.intro (by first | exact hru | exact hrc | exact ⟨hlc⟩ | exact ⟨hlc1⟩ | exact ⟨hl0⟩) ?_)
          rw [hsw q c' c1]
          refine Cv.fold [55, 56, 57, 58, 59, 60, 61, 62, 63, 64, 65, 66, 67, 68, 69, 70, 71, 72, 73, 74, 75, 76] 2 [] (by exact Nat.le_refl _) (by exact Nat.le_of_ble_eq_true rfl) (by rfl) (by cbv) ?_
          intro js4
          exact ⟨(_, c1, _), hfin u hu', js4, rfl⟩
        · have hc2 : vc .lss cI (vb .sub .i64 iI 1) = false := by rw [hcond]; simpa using hc
          have hfin : PermOn p q a b ∧ St k q ∧ Srt k q a b := ⟨f3, f4, f5.done (by omega)⟩
          clear f3 f4 f5 hcond hs1 hst hsr
          generalize @PermOn = PO at *
          generalize @St = ST at *
          generalize @Srt = SR at *
          cbv
          rw [hc2]
          cbv
          exact ⟨q, hfin, rfl⟩
    · rename_i hlt
      have hij : i < j := by rw [qc, lss_true] at hlt; simp only [nc] at *; omega
      obtain ⟨h, hh⟩ : ∃ h, h = (i + j) / 2 := ⟨_, rfl⟩
      have h0 : i ≤ h ∧ h < j := by omega
      obtain ⟨r1, r2⟩ := hrow h (by omega) (by omega)
      obtain ⟨h1, hh1⟩ : ∃ h1, h1 = h + 1 := ⟨_, rfl⟩
      have hu0 : ∀ u : Int, u = vw .i64 (vb .shr .u64 (vw .u64 (vb .add .i64 iI jI)) 1) → u = (h : Int) ∧ vtoN u = h ∧ InR u N := fun u hu => by
        have e : u = (h : Int) := by rw [hu, hhalf iI jI i j g1 g2 (by omega), hh]
        exact ⟨e, by rw [qtoN, e]; rfl, ⟨by omega⟩⟩
      have hlh : h < N := by omega
      have hA : k (p h) < k (p a) → ∀ u v : Int, u = (h : Int) → v = vb .add .i64 u 1 → (v = h1 ∧ jI = j ∧ m ≤ h1 ∧ h1 ≤ j ∧ j ≤ b ∧ (∀ y, m ≤ y → y < h1 → k (p y) < k (p a)) ∧ (∀ y, j ≤ y → y < b → k (p a) ≤ k (p y))) ∧ j - h1 < j - i := fun hk u v hu hv =>
        ⟨⟨by rw [hv, hadd u 1 h 1 hu rfl (by omega), hh1], g2, by omega, by omega, g5, by rw [hh1]; exact r1 hk, g7⟩, by omega⟩
      have hB : ¬ k (p h) < k (p a) → ∀ u : Int, u = (h : Int) → (iI = i ∧ u = h ∧ m ≤ i ∧ i ≤ h ∧ h ≤ b ∧ (∀ y, m ≤ y → y < i → k (p y) < k (p a)) ∧ (∀ y, h ≤ y → y < b → k (p a) ≤ k (p y))) ∧ h - i < j - i := fun hk u hu =>
        ⟨⟨g1, hu, g3, by omega, by omega, g6, r2 hk⟩, by omega⟩
      clear r1 r2 hrow hup g6 g7 hst hsr hlt
      replace hA := fun (_ : Unit) => hA
      replace hB := fun (_ : Unit) => hB
      cbv
      obtain ⟨u, hu⟩ : ∃ u, u = vw .i64 (vb .shr .u64 (vw .u64 (vb .add .i64 iI jI)) 1) := ⟨_, rfl⟩
      obtain ⟨hu', htu, hru⟩ := hu0 u hu
      rw [← hu, htu, hta, hadd0, hadd0]
      cbv
      repeat (refine And.intro (by first | exact hru | exact hra | exact ⟨hla⟩ | exact ⟨hlh⟩ | exact ⟨hl0⟩) ?_)
      refine call_con (ρ := [(1, .z)]) (hcmp _ _ _ _ _ _ _ _) ⟨by rfl, by rfl, by rfl, by cbv; exact ⟨fun _ => rfl, trivial⟩⟩ ?_
      rintro v H R js3 ⟨rfl, rfl, rfl⟩
      cbv
      (repeat refine And.intro (fun _ => rfl) ?_)
      rw [hsg]
      by_cases hk : k (p h) < k (p a)
      · rw [decide_eq_true hk]
        cbv
        obtain ⟨v, hv⟩ : ∃ v, v = vb .add .i64 u 1 := ⟨_, rfl⟩
        rw [← hv]
        have hfin := hA () hk u v hu' hv
        refine Cv.fold ([12] ++ [31, 32, 33, 34, 35, 36, 37, 38, 39, 40, 41, 42, 43, 44, 45, 46, 47, 48, 49, 50, 51, 52, 53]) 2 [] (by exact Nat.le_refl _) (by exact Nat.le_of_ble_eq_true rfl) (by rfl) (by cbv) ?_
        intro js4
        exact ⟨(_, _, h1, _), hfin, js4, rfl⟩
      · rw [decide_eq_false hk]
        cbv
        have hfin := hB () hk u hu'
        refine Cv.fold ([12] ++ [31, 32, 33, 34, 35, 36, 37, 38, 39, 40, 41, 42, 43, 44, 45, 46, 47, 48, 49, 50, 51, 52, 53]) 2 [] (by exact Nat.le_refl _) (by exact Nat.le_of_ble_eq_true rfl) (by rfl) (by cbv) ?_
        intro js4
        exact ⟨(_, _, _, h), hfin, js4, rfl⟩
set_option maxRecDepth 100000 in
set_option maxHeartbeats 4000000 in
theorem merge2_con (k : Nat → Int) (x l c p : Nat → Nat) (N C cap a m b : Nat) (hN : N ≤ 100000) (hma : a + 1 < m) (hmb : b = m + 1) (hb : b ≤ N) (hst : St k p) (hsr : Srt k p a m) :
    Con Try.prog 144 [.slice 0 .z 2 N cap, .int .i64 a, .int .i64 m, .int .i64 b, .fn 111 [.ptr 1 .z 1 0]] [coinB k x l c N C p, .one 110 [.fn 63 []]]
    (fun v H R => v = .tup [] ∧ R = [] ∧ ∃ q, (PermOn p q a b ∧ St k q ∧ Srt k q a b) ∧ H = [coinB k x l c N C q, .one 110 [.fn 63 []]]) := by
  have hcmp := cmpV_con
  have hsw := swp_rows k x l c
  refine con_gen (con_cut 2 (by simp) (con_drop (con_walk hmix fn144 ?_)))
  intro vb vc vw vtoN vofN vaddN vsubN vmaxI vminI vcutN vgd vst vln vrep vsub vonto vsplice vstrEq vbyteV vnotB veqB hw qb qc qw qtoN qofN qaddN qsubN qmaxI qminI qcutN qgd qst qln qrep qsub qonto qsplice qstrEq qbyteV qnotB qeqB
  have hm := hmix; generalize Try.prog = P at *
  have hadd : ∀ (x y : Int) (i j : Nat), x = i → y = j → i + j < 1000000 → vb .add .i64 x y = ((i + j : Nat) : Int) := fun x y i j h1 h2 h => by rw [qb, add_i64 (by omega) (by omega)]; omega
  have hsub : ∀ (x y : Int) (i j : Nat), x = i → y = j → j ≤ i → i < 1000000 → vb .sub .i64 x y = ((i - j : Nat) : Int) := fun x y i j h1 h2 h h' => by rw [qb, sub_i64 (by omega) (by omega)]; omega
  have hadd0 : ∀ i, vaddN 0 i = i := fun i => by simp only [qaddN, Nat.zero_add]
  have hsg : ∀ a b, vc .lss (sgnV a b) 0 = decide (a < b) := fun a b => by
    rw [qc]; simp only [cV]; rw [decide_eq_decide]; exact sgnV_lt
  have hhalf : ∀ (x y : Int) (i j : Nat), x = i → y = j → i + j < 1000000 → vw .i64 (vb .shr .u64 (vw .u64 (vb .add .i64 x y)) 1) = (((i + j) / 2 : Nat) : Int) := fun x y i j h1 h2 h => by
    rw [hadd x y i j h1 h2 h, qb, qw]; exact half_eq (by omega)
  have hswp := @swp_perm
  have hswst := @swp_st
  generalize hSg : sgnV = SG at *
  generalize haI : (a : Int) = aI at *
  generalize hbI : (b : Int) = bI at *
  generalize hmI : (m : Int) = mI at *
  have e1 : vc .eql (vb .sub .i64 mI aI) 1 = false := by rw [hsub mI aI m a hmI.symm haI.symm (by omega) (by omega), qc, eql_false]; omega
  have e2 : vc .eql (vb .sub .i64 bI mI) 1 = true := by rw [hsub bI mI b m hbI.symm hmI.symm (by omega) (by omega), qc, eql_true]; omega
  have hrow : ∀ h, a ≤ h → h < m → (¬ k (p m) < k (p h) → ∀ y, a ≤ y → y < h + 1 → k (p y) ≤ k (p m)) ∧ (k (p m) < k (p h) → ∀ y, h ≤ y → y < m → k (p m) < k (p y)) := fun h h1 h2 =>
    ⟨fun h3 y h4 h5 => by
      by_cases e : y = h
      · subst e; omega
      · have := hsr y h h4 (by omega) h2; omega, fun h3 y h4 h5 => by
      by_cases e : y = h
      · subst e; omega
      · have := hsr h y h1 (by omega) h5; omega⟩
  have hdn : ∀ i, a ≤ i → i ≤ m → (∀ y, a ≤ y → y < i → k (p y) ≤ k (p m)) → (∀ y, i ≤ y → y < m → k (p m) < k (p y)) → Dn k p a i m b := fun i h1 h2 h3 h4 =>
    ⟨fun x y g1 g2 g3 g4 g5 => hsr x y g1 g2 (by omega), fun x g1 g2 => by omega, fun y g1 g2 => h4 y (by omega) g2, fun y g1 g2 g3 => h3 y (by omega) g2⟩
  have hinv0 : aI = a ∧ mI = m ∧ a ≤ a ∧ a ≤ m ∧ m ≤ m ∧ (∀ y, a ≤ y → y < a → k (p y) ≤ k (p m)) ∧ (∀ y, m ≤ y → y < m → k (p m) < k (p y)) := ⟨haI.symm, hmI.symm, by omega, by omega, by omega, fun y h1 h2 => by omega, fun y h1 h2 => by omega⟩
  have htm : vtoN mI = m := by rw [qtoN, ← hmI]; rfl
  have hrm : InR mI N := ⟨by omega⟩
  have hlm : m < N := by omega
  have hl0 : 0 < N := by omega
  cbv
  rw [e1]
  cbv
  rw [e2]
  cbv
  refine loop_fam (α := Int × Int × Nat × Nat) ([16] ++ [83, 84, 85, 86, 87, 88, 89, 90, 91, 92, 93, 94, 95, 96, 97, 98, 99, 100, 101, 102, 103, 104, 105, 106]) []
    (fun (iI, jI, i, j) => [(14, .int .i64 iI), (15, .int .i64 jI)])
    (fun (iI, jI, i, j) => [])
    (fun (iI, jI, i, j) => iI = i ∧ jI = j ∧ a ≤ i ∧ i ≤ j ∧ j ≤ m ∧ (∀ y, a ≤ y → y < i → k (p y) ≤ k (p m)) ∧ (∀ y, j ≤ y → y < m → k (p m) < k (p y)))
    (fun (iI, jI, i, j) => j - i) hw hm ?_ ?_
  · refine Cv.fold ([16] ++ [83, 84, 85, 86, 87, 88, 89, 90, 91, 92, 93, 94, 95, 96, 97, 98, 99, 100, 101, 102, 103, 104, 105, 106]) 2 [] (by exact Nat.le_refl _) (by exact Nat.le_of_ble_eq_true rfl) (by rfl) (by cbv) ?_
    intro js
    exact ⟨(_, _, _, _), hinv0, js, rfl⟩
  · rintro ⟨iI, jI, i, j⟩ js ⟨g1, g2, g3, g4, g5, g6, g7⟩
    clear hinv0
    cbv
    split
    rotate_left
    · rename_i hlt
      have hij : i = j := by rw [qc, lss_false] at hlt; simp only [nc] at *; omega
      have hU := hdn i g3 (by omega) g6 (fun y h1 h2 => g7 y (by omega) h2)
      clear g6 g7 hrow hdn hlt
      have hinv1 : mI = m ∧ i ≤ m ∧ m ≤ m ∧ PermOn p p a b ∧ St k p ∧ Dn k p a i m b := ⟨hmI.symm, by omega, by omega, PermOn.refl _ _ _, hst, hU⟩
      cbv
      refine loop_fam (α := Int × Nat × (Nat → Nat)) [108, 109, 110, 111, 112, 113, 114, 115, 116, 117, 118, 119, 120, 121, 122, 123, 124, 125, 126, 127, 128] []
        (fun (cI, c', q) => [(17, .int .i64 cI)])
        (fun (cI, c', q) => [(0, coinB k x l c N C q)])
        (fun (cI, c', q) => cI = c' ∧ i ≤ c' ∧ c' ≤ m ∧ PermOn p q a b ∧ St k q ∧ Dn k q a i c' b)
        (fun (cI, c', q) => c') hw hm ?_ ?_
      · refine Cv.fold [108, 109, 110, 111, 112, 113, 114, 115, 116, 117, 118, 119, 120, 121, 122, 123, 124, 125, 126, 127, 128] 2 [] (by exact Nat.le_refl _) (by exact Nat.le_of_ble_eq_true rfl) (by rfl) (by cbv) ?_
        intro js
        exact ⟨(_, _, _), hinv1, js, rfl⟩
      · rintro ⟨cI, c', q⟩ js2 ⟨f1, f2, f6, f3, f4, f5⟩
        clear hinv1 hU
        have hcond : vc .gtr cI iI = decide (i < c') := by
          rw [qc]; simp only [cV]; rw [decide_eq_decide, f1, g1]; simp only [nc]; omega
        by_cases hc : i < c'
        · have hc2 : vc .gtr cI iI = true := by rw [hcond]; simpa using hc
          obtain ⟨d, hd⟩ : ∃ d, c' = d + 1 := ⟨c' - 1, by omega⟩
          subst hd
          have hk : k (q (d + 1)) < k (q d) := f5.mid d (by omega) (by omega)
          have hpm : PermOn p (swp q (d + 1) d) a b := f3.trans (hswp ⟨by omega, by omega⟩ ⟨by omega, by omega⟩)
          have hss : St k (swp q (d + 1) d) := by rw [swp_comm]; exact hswst f4 (by omega)
          have hdn2 : Dn k (swp q (d + 1) d) a i d b := by rw [swp_comm]; exact f5.next (by omega) g3 (by omega)
          obtain ⟨c1, hc1⟩ : ∃ c1, c1 = d + 1 := ⟨_, rfl⟩
          have hu0 : ∀ u : Int, u = vb .sub .i64 cI 1 → u = ((d : Nat) : Int) ∧ vtoN u = d ∧ InR u N := fun u hu => by
            have e : u = ((d : Nat) : Int) := by rw [hu, hsub cI 1 (d + 1) 1 f1 rfl (by omega) (by omega)]; rfl
            exact ⟨e, by rw [qtoN, e]; rfl, ⟨by omega⟩⟩
          have htc : vtoN cI = c1 := by rw [qtoN, f1, hc1]; rfl
          have hrc : InR cI N := ⟨by omega⟩
          have hlc : d < N := by omega
          have hlc1 : c1 < N := by omega
          have hfin : ∀ u : Int, u = ((d : Nat) : Int) → (u = d ∧ i ≤ d ∧ d ≤ m ∧ PermOn p (swp q c1 d) a b ∧ St k (swp q c1 d) ∧ Dn k (swp q c1 d) a i d b) ∧ d < d + 1 := fun u hu => ⟨⟨hu, by omega, by omega, by rw [hc1]; exact hpm, by rw [hc1]; exact hss, by rw [hc1]; exact hdn2⟩, by omega⟩
          clear f3 f4 f5 hpm hss hdn2 hk hcond hst hsr
          generalize @PermOn = PO at *
          generalize @St = ST at *
          generalize @Dn = UP at *
          generalize hSW : @swp = SW at *
          cbv
          rw [hc2]
          cbv
          obtain ⟨u, hu⟩ : ∃ u, u = vb .sub .i64 cI 1 := ⟨_, rfl⟩
          obtain ⟨hu', htu, hru⟩ := hu0 u hu
          rw [← hu, htc, htu, hadd0, hadd0]
          cbv
          repeat (refine And.intro (by first | exact hru | exact hrc | exact ⟨hlc⟩ | exact ⟨hlc1⟩ | exact ⟨hl0⟩) ?_)
          rw [hsw q c1 d]
          refine Cv.fold [108, 109, 110, 111, 112, 113, 114, 115, 116, 117, 118, 119, 120, 121, 122, 123, 124, 125, 126, 127, 128] 2 [] (by exact Nat.le_refl _) (by exact Nat.le_of_ble_eq_true rfl) (by rfl) (by cbv) ?_
          intro js4
          exact ⟨(_, d, _), hfin u hu', js4, rfl⟩
        · have hc2 : vc .gtr cI iI = false := by rw [hcond]; simpa using hc
          have hfin : PermOn p q a b ∧ St k q ∧ Srt k q a b := ⟨f3, f4, f5.done (by omega)⟩
          clear f3 f4 f5 hcond hst hsr
          generalize @PermOn = PO at *
          generalize @St = ST at *
          generalize @Srt = SR at *
          cbv
          rw [hc2]
          cbv
          exact ⟨q, hfin, rfl⟩
    · rename_i hlt
      have hij : i < j := by rw [qc, lss_true] at hlt; simp only [nc] at *; omega
      obtain ⟨h, hh⟩ : ∃ h, h = (i + j) / 2 := ⟨_, rfl⟩
      have h0 : i ≤ h ∧ h < j := by omega
      obtain ⟨r1, r2⟩ := hrow h (by omega) (by omega)
      obtain ⟨h1, hh1⟩ : ∃ h1, h1 = h + 1 := ⟨_, rfl⟩
      have hu0 : ∀ u : Int, u = vw .i64 (vb .shr .u64 (vw .u64 (vb .add .i64 iI jI)) 1) → u = (h : Int) ∧ vtoN u = h ∧ InR u N := fun u hu => by
        have e : u = (h : Int) := by rw [hu, hhalf iI jI i j g1 g2 (by omega), hh]
        exact ⟨e, by rw [qtoN, e]; rfl, ⟨by omega⟩⟩
      have hlh : h < N := by omega
      have hA : ¬ k (p m) < k (p h) → ∀ u v : Int, u = (h : Int) → v = vb .add .i64 u 1 → (v = h1 ∧ jI = j ∧ a ≤ h1 ∧ h1 ≤ j ∧ j ≤ m ∧ (∀ y, a ≤ y → y < h1 → k (p y) ≤ k (p m)) ∧ (∀ y, j ≤ y → y < m → k (p m) < k (p y))) ∧ j - h1 < j - i := fun hk u v hu hv =>
        ⟨⟨by rw [hv, hadd u 1 h 1 hu rfl (by omega), hh1], g2, by omega, by omega, g5, by rw [hh1]; exact r1 hk, g7⟩, by omega⟩
      have hB : k (p m) < k (p h) → ∀ u : Int, u = (h : Int) → (iI = i ∧ u = h ∧ a ≤ i ∧ i ≤ h ∧ h ≤ m ∧ (∀ y, a ≤ y → y < i → k (p y) ≤ k (p m)) ∧ (∀ y, h ≤ y → y < m → k (p m) < k (p y))) ∧ h - i < j - i := fun hk u hu =>
        ⟨⟨g1, hu, g3, by omega, by omega, g6, r2 hk⟩, by omega⟩
      have hnt : vnotB true = false := by simp only [qnotB]; rfl
      have hnf : vnotB false = true := by simp only [qnotB]; rfl
      clear r1 r2 hrow hdn g6 g7 hst hsr hlt
      replace hA := fun (_ : Unit) => hA
      replace hB := fun (_ : Unit) => hB
      cbv
      obtain ⟨u, hu⟩ : ∃ u, u = vw .i64 (vb .shr .u64 (vw .u64 (vb .add .i64 iI jI)) 1) := ⟨_, rfl⟩
      obtain ⟨hu', htu, hru⟩ := hu0 u hu
      rw [← hu, htu, htm, hadd0, hadd0]
      cbv
      repeat (refine And.intro (by first | exact hru | exact hrm | exact ⟨hlm⟩ | exact ⟨hlh⟩ | exact ⟨hl0⟩) ?_)
      refine call_con (ρ := [(1, .z)]) (hcmp _ _ _ _ _ _ _ _) ⟨by rfl, by rfl, by rfl, by cbv; exact ⟨fun _ => rfl, trivial⟩⟩ ?_
      rintro v H R js3 ⟨rfl, rfl, rfl⟩
      cbv
      (repeat refine And.intro (fun _ => rfl) ?_)
      rw [hsg]
      by_cases hk : k (p m) < k (p h)
      · rw [decide_eq_true hk]
        cbv
        rw [hnt]
        cbv
        have hfin := hB () hk u hu'
        refine Cv.fold ([16] ++ [83, 84, 85, 86, 87, 88, 89, 90, 91, 92, 93, 94, 95, 96, 97, 98, 99, 100, 101, 102, 103, 104, 105, 106]) 2 [] (by exact Nat.le_refl _) (by exact Nat.le_of_ble_eq_true rfl) (by rfl) (by cbv) ?_
        intro js4
        exact ⟨(_, _, _, h), hfin, js4, rfl⟩
      · rw [decide_eq_false hk]
        cbv
        rw [hnf]
        cbv
        obtain ⟨v, hv⟩ : ∃ v, v = vb .add .i64 u 1 := ⟨_, rfl⟩
        rw [← hv]
        have hfin := hA () hk u v hu' hv
        refine Cv.fold ([16] ++ [83, 84, 85, 86, 87, 88, 89, 90, 91, 92, 93, 94, 95, 96, 97, 98, 99, 100, 101, 102, 103, 104, 105, 106]) 2 [] (by exact Nat.le_refl _) (by exact Nat.le_of_ble_eq_true rfl) (by rfl) (by cbv) ?_
        intro js4
        exact ⟨(_, _, h1, _), hfin, js4, rfl⟩
end Go.Proofs.Ytodobmkflimfkaa
namespace Go.Proofs.Ytodobmkflimfkaa
/-! What two sorted rows become, plainly. -/
theorem bin_lo {k : Nat → Int} {p : Nat → Nat} {a m b n lo r0 c : Nat} (hl : Srt k p a m) (hr : Srt k p m b) (h1 : a ≤ lo) (h2 : r0 ≤ m) (h3 : ∀ x, lo ≤ x → x < r0 → m ≤ n - 1 - x ∧ n - 1 - x < b ∧ x < n) (hc : lo ≤ c) (hc2 : c < r0)
    (hk : ¬ k (p (n - 1 - c)) < k (p c)) : ∀ x, lo ≤ x → x < c + 1 → k (p x) ≤ k (p (n - 1 - x)) := by
  intro x hx hx2
  by_cases e : x = c
  · subst e; omega
  · have e1 := hl x c (by omega) (by omega) (by omega)
    have q1 := h3 c hc hc2
    have q2 := h3 x hx (by omega)
    have e2 := hr (n - 1 - c) (n - 1 - x) (by omega) (by omega) (by omega)
    omega
theorem bin_hi {k : Nat → Int} {p : Nat → Nat} {a m b n lo r0 c : Nat} (hl : Srt k p a m) (hr : Srt k p m b) (h1 : a ≤ lo) (h2 : r0 ≤ m) (h3 : ∀ x, lo ≤ x → x < r0 → m ≤ n - 1 - x ∧ n - 1 - x < b ∧ x < n) (hc : lo ≤ c) (hc2 : c < r0)
    (hk : k (p (n - 1 - c)) < k (p c)) : ∀ x, c ≤ x → x < r0 → k (p (n - 1 - x)) < k (p x) := by
  intro x hx hx2
  by_cases e : x = c
  · subst e; omega
  · have e1 := hl c x (by omega) (by omega) (by omega)
    have q1 := h3 c hc hc2
    have q2 := h3 x (by omega) (by omega)
    have e2 := hr (n - 1 - x) (n - 1 - c) (by omega) (by omega) (by omega)
    omega
/-- Where the search begins and ends. -/
def LR (a m b mid n lo r0 : Nat) : Prop := (mid < m ∧ lo = n - b ∧ r0 = mid) ∨ (m ≤ mid ∧ lo = a ∧ r0 = m)
theorem LR.in {a m b mid n lo r0 : Nat} (h : LR a m b mid n lo r0) (h1 : a < m) (h2 : m < b) (hmid : mid = (a + b) / 2) (hn : n = mid + m) : a ≤ lo ∧ r0 ≤ m ∧ lo ≤ r0 ∧ ∀ x, lo ≤ x → x < r0 → m ≤ n - 1 - x ∧ n - 1 - x < b ∧ x < n := by
  rcases h with ⟨h3, h4, h5⟩ | ⟨h3, h4, h5⟩
  · exact ⟨by omega, by omega, by omega, fun x e1 e2 => by omega⟩
  · exact ⟨by omega, by omega, by omega, fun x e1 e2 => by omega⟩
theorem cut_of {k : Nat → Int} {p : Nat → Nat} {a m b mid n lo r0 s : Nat} (h : LR a m b mid n lo r0) (h1 : a < m) (h2 : m < b) (hmid : mid = (a + b) / 2) (hn : n = mid + m) (hs : lo ≤ s) (hs2 : s ≤ r0)
    (hlo : ∀ x, lo ≤ x → x < s → k (p x) ≤ k (p (n - 1 - x))) (hhi : ∀ x, s ≤ x → x < r0 → k (p (n - 1 - x)) < k (p x)) (hl : Srt k p a m) (hr : Srt k p m b) : CutAt k p a s m (n - s) b := by
  have hL := h
  rcases h with ⟨h3, h4, h5⟩ | ⟨h3, h4, h5⟩
  all_goals refine ⟨by omega, by omega, by omega, by omega, fun x y e1 e2 e3 e4 => ?_, fun x y e1 e2 e3 e4 => ?_⟩
  · by_cases c : s = lo
    · omega
    · have f1 := hlo (s - 1) (by omega) (by omega)
      have f2 : k (p x) ≤ k (p (s - 1)) := by
        by_cases c2 : x = s - 1
        · subst c2; exact Int.le_refl _
        · exact hl x (s - 1) e1 (by omega) (by omega)
      have f3 : k (p (n - 1 - (s - 1))) ≤ k (p y) := by
        by_cases c2 : y = n - 1 - (s - 1)
        · subst c2; exact Int.le_refl _
        · exact hr _ y (by omega) (by omega) e4
      omega
  · by_cases c : s = r0
    · omega
    · have f1 := hhi s (Nat.le_refl _) (by omega)
      have f2 : k (p s) ≤ k (p x) := by
        by_cases c2 : x = s
        · subst c2; exact Int.le_refl _
        · exact hl s x (by omega) (by omega) e2
      have f3 : k (p y) ≤ k (p (n - 1 - s)) := by
        by_cases c2 : y = n - 1 - s
        · subst c2; exact Int.le_refl _
        · exact hr y _ e3 (by omega) (by omega)
      omega
  · by_cases c : s = a
    · omega
    · have f1 := hlo (s - 1) (by omega) (by omega)
      have f2 : k (p x) ≤ k (p (s - 1)) := by
        by_cases c2 : x = s - 1
        · subst c2; exact Int.le_refl _
        · exact hl x (s - 1) e1 (by omega) (by omega)
      have f3 : k (p (n - 1 - (s - 1))) ≤ k (p y) := by
        by_cases c2 : y = n - 1 - (s - 1)
        · subst c2; exact Int.le_refl _
        · exact hr _ y (by omega) (by omega) e4
      omega
  · by_cases c : s = m
    · omega
    · have f1 := hhi s (Nat.le_refl _) (by omega)
      have f2 : k (p s) ≤ k (p x) := by
        by_cases c2 : x = s
        · subst c2; exact Int.le_refl _
        · exact hl s x (by omega) (by omega) e2
      have f3 : k (p y) ≤ k (p (n - 1 - s)) := by
        by_cases c2 : y = n - 1 - s
        · subst c2; exact Int.le_refl _
        · exact hr y _ e3 (by omega) (by omega)
      omega
theorem rotF_id {p : Nat → Nat} {s m e : Nat} (h1 : s ≤ m) (h2 : m ≤ e) (h : s = m ∨ e = m) : rotF p s m e = p := by
  funext x
  rw [rotF_eq]
  rcases h with h | h
  all_goals repeat' split
  all_goals first | omega | (congr 1; omega) | rfl
theorem merge_fin {k : Nat → Int} {p q1 q2 q3 : Nat → Nat} {a mid b : Nat} (h1 : PermOn p q1 a b) (h2 : PermOn q1 q2 a mid) (h3 : PermOn q2 q3 mid b) (s3 : St k q3)
    (X : ∀ x y, a ≤ x → x < mid → mid ≤ y → y < b → k (q1 x) ≤ k (q1 y)) (r2 : Srt k q2 a mid) (r3 : Srt k q3 mid b) (ha : a ≤ mid) (hb : mid ≤ b) : PermOn p q3 a b ∧ St k q3 ∧ Srt k q3 a b := by
  refine ⟨(h1.trans (h2.wide (Nat.le_refl _) hb)).trans (h3.wide ha (Nat.le_refl _)), s3, ?_⟩
  refine Srt.join (q := q1) X (fun x y e1 e2 e3 => ?_) r3 (fun x e1 e2 => ?_) (fun y e1 e2 => ?_)
  · rw [h3.out x (by omega), h3.out y (by omega)]; exact r2 x y e1 e2 e3
  · obtain ⟨x', f1, f2, f3⟩ := h2.sub x e1 e2
    exact ⟨x', f1, f2, by rw [h3.out x (by omega), f3]⟩
  · obtain ⟨y', f1, f2, f3⟩ := h3.sub y e1 e2
    exact ⟨y', f1, f2, by rw [f3, h2.out y' (by omega)]⟩
theorem Srt.keep {k : Nat → Int} {q1 q2 : Nat → Nat} {a mid x y : Nat} (h2 : PermOn q1 q2 a mid) (h : Srt k q1 x y) (hx : mid ≤ x) : Srt k q2 x y := fun i j e1 e2 e3 => by
  rw [h2.out i (by omega), h2.out j (by omega)]; exact h i j e1 e2 e3
theorem mfacts {a m b mid n lo r0 i : Nat} (h : LR a m b mid n lo r0) (h1 : a + 1 < m) (h2 : m + 1 < b) (hmid : mid = (a + b) / 2) (hn : n = mid + m) (h3 : lo ≤ i) (h4 : i ≤ r0) :
    (a ≤ i ∧ i ≤ m ∧ m ≤ n - i ∧ n - i ≤ b) ∧ i + (n - i - m) = mid ∧ (i ≤ mid ∧ mid ≤ n - i ∧ a < mid ∧ mid < b) ∧ i ≤ n ∧ (¬ i < m → ¬ mid < n - i) ∧ (i < m → ¬ m < n - i → ¬ i < mid ∧ a < i ∧ n - i < b) ∧ mid - a < b - a ∧ b - mid < b - a := by
  rcases h with ⟨h5, h6, h7⟩ | ⟨h5, h6, h7⟩
  · exact ⟨by omega, by omega, by omega, by omega, fun g => by omega, fun g1 g2 => by omega, by omega, by omega⟩
  · exact ⟨by omega, by omega, by omega, by omega, fun g => by omega, fun g1 g2 => by omega, by omega, by omega⟩
theorem srt_l {k : Nat → Int} {q : Nat → Nat} {a i mid : Nat} (h1 : a ≤ i) (h2 : i ≤ mid) (A : Srt k q a i) (B : Srt k q i mid) (h : ¬ (a < i ∧ i < mid)) : Srt k q a mid := by
  by_cases h3 : i = a
  · subst h3; exact B
  · obtain rfl : i = mid := by omega
    exact A
/-- What the search knows. -/
@[irreducible] def LoF (k : Nat → Int) (p : Nat → Nat) (n lo i : Nat) : Prop := ∀ x, lo ≤ x → x < i → k (p x) ≤ k (p (n - 1 - x))
@[irreducible] def HiF (k : Nat → Int) (p : Nat → Nat) (n j r0 : Nat) : Prop := ∀ x, j ≤ x → x < r0 → k (p (n - 1 - x)) < k (p x)
theorem LoF.of {k : Nat → Int} {p : Nat → Nat} {n lo i : Nat} (h : ∀ x, lo ≤ x → x < i → k (p x) ≤ k (p (n - 1 - x))) : LoF k p n lo i := by unfold LoF; exact h
theorem HiF.of {k : Nat → Int} {p : Nat → Nat} {n j r0 : Nat} (h : ∀ x, j ≤ x → x < r0 → k (p (n - 1 - x)) < k (p x)) : HiF k p n j r0 := by unfold HiF; exact h
theorem LoF.out {k : Nat → Int} {p : Nat → Nat} {n lo i : Nat} (h : LoF k p n lo i) : ∀ x, lo ≤ x → x < i → k (p x) ≤ k (p (n - 1 - x)) := by unfold LoF at h; exact h
theorem HiF.out {k : Nat → Int} {p : Nat → Nat} {n j r0 : Nat} (h : HiF k p n j r0) : ∀ x, j ≤ x → x < r0 → k (p (n - 1 - x)) < k (p x) := by unfold HiF at h; exact h
@[irreducible] def LRi (a m b mid n lo r0 : Nat) : Prop := LR a m b mid n lo r0
theorem LRi.of {a m b mid n lo r0 : Nat} (h : LR a m b mid n lo r0) : LRi a m b mid n lo r0 := by unfold LRi; exact h
theorem LRi.out {a m b mid n lo r0 : Nat} (h : LRi a m b mid n lo r0) : LR a m b mid n lo r0 := by unfold LRi at h; exact h
end Go.Proofs.Ytodobmkflimfkaa
namespace Go.Proofs.Ytodobmkflimfkaa
open Go Go.Sx Go.Proofs
/-! Two sorted rows become one (144). -/
theorem key5 {A B C D E : Type} {Goal : Prop} (G Fc : A → B → C → D → E → Prop) (hm : (∀ a b c d e, Fc a b c d e → G a b c d e) → Goal) (hk : ∀ a b c d e, Fc a b c d e → G a b c d e) : Goal := hm hk
/-- What is known where the search ends. -/
structure MEx (P : Program) (k : Nat → Int) (x l c : Nat → Nat) (N C cap : Nat) (p : Nat → Nat) (a m mid b i e : Nat) (aI iI dI mI bI : Int) (Q1 : Nat → Nat) : Prop where
  rid : ¬ (i < m ∧ m < e) → Q1 = p
  rot : ∀ eI : Int, eI = (e : Int) → i < m → m < e → Con P 145 [.slice 0 .z 2 N cap, .int .i64 iI, .int .i64 mI, .int .i64 eI, .fn 111 [.ptr 1 .z 1 0]] [coinB k x l c N C p, .one 110 [.fn 63 []]]
      (fun v H R => v = .tup [] ∧ R = [] ∧ H = [coinB k x l c N C Q1, .one 110 [.fn 63 []]])
  r1 : a < i → i < mid → Con P 144 [.slice 0 .z 2 N cap, .int .i64 aI, .int .i64 iI, .int .i64 dI, .fn 111 [.ptr 1 .z 1 0]] [coinB k x l c N C Q1, .one 110 [.fn 63 []]]
      (fun v H R => v = .tup [] ∧ R = [] ∧ ∃ r, (PermOn Q1 r a mid ∧ St k r ∧ Srt k r a mid) ∧ H = [coinB k x l c N C r, .one 110 [.fn 63 []]])
  n1 : ¬ (a < i ∧ i < mid) → PermOn Q1 Q1 a mid ∧ St k Q1 ∧ Srt k Q1 a mid
  r2 : ∀ (eI : Int), eI = (e : Int) → ∀ Q2, PermOn Q1 Q2 a mid → St k Q2 → mid < e → e < b → Con P 144 [.slice 0 .z 2 N cap, .int .i64 dI, .int .i64 eI, .int .i64 bI, .fn 111 [.ptr 1 .z 1 0]] [coinB k x l c N C Q2, .one 110 [.fn 63 []]]
      (fun v H R => v = .tup [] ∧ R = [] ∧ ∃ r, (PermOn Q2 r mid b ∧ St k r ∧ Srt k r mid b) ∧ H = [coinB k x l c N C r, .one 110 [.fn 63 []]])
  n2 : ∀ Q2, PermOn Q1 Q2 a mid → St k Q2 → ¬ (mid < e ∧ e < b) → PermOn Q2 Q2 mid b ∧ St k Q2 ∧ Srt k Q2 mid b
  fin : ∀ Q2 Q3, PermOn Q1 Q2 a mid → Srt k Q2 a mid → PermOn Q2 Q3 mid b → St k Q3 → Srt k Q3 mid b → PermOn p Q3 a b ∧ St k Q3 ∧ Srt k Q3 a b
  x1 : ¬ i < m → ¬ mid < e
  x2 : i < m → ¬ m < e → ¬ i < mid ∧ a < i ∧ e < b
theorem mex {P : Program} {k : Nat → Int} {x l c : Nat → Nat} {N C cap : Nat} {p : Nat → Nat} {a m mid b i n lo r0 : Nat} {aI iI dI mI bI : Int} (hb : b ≤ N) (hma : a + 1 < m) (hmb : m + 1 < b) (hst : St k p) (hsl : Srt k p a m) (hsr : Srt k p m b)
    (ih : ∀ (q : Nat → Nat) (aI mI bI : Int) (a' m' b' : Nat), b' - a' < b - a → a' < m' → m' < b' → b' ≤ N → St k q → Srt k q a' m' → Srt k q m' b' → aI = a' → mI = m' → bI = b' →
      Con P 144 [.slice 0 .z 2 N cap, .int .i64 aI, .int .i64 mI, .int .i64 bI, .fn 111 [.ptr 1 .z 1 0]] [coinB k x l c N C q, .one 110 [.fn 63 []]]
      (fun v H R => v = .tup [] ∧ R = [] ∧ ∃ r, (PermOn q r a' b' ∧ St k r ∧ Srt k r a' b') ∧ H = [coinB k x l c N C r, .one 110 [.fn 63 []]]))
    (hrotc : ∀ (sI mI eI : Int) (s m e : Nat), s < m → m < e → e ≤ N → sI = s → mI = m → eI = e → Con P 145 [.slice 0 .z 2 N cap, .int .i64 sI, .int .i64 mI, .int .i64 eI, .fn 111 [.ptr 1 .z 1 0]] [coinB k x l c N C p, .one 110 [.fn 63 []]]
      (fun v H R => v = .tup [] ∧ R = [] ∧ H = [coinB k x l c N C (rotF p s m e), .one 110 [.fn 63 []]]))
    (hmid : mid = (a + b) / 2) (hn : n = mid + m) (haI : aI = a) (hiI : iI = i) (hd : dI = mid) (hmI : mI = m) (hbI : bI = b) (hLR : LRi a m b mid n lo r0) (g3 : lo ≤ i) (g4 : i ≤ r0) (g6 : LoF k p n lo i) (g7 : HiF k p n i r0) :
    MEx P k x l c N C cap p a m mid b i (n - i) aI iI dI mI bI (rotF p i m (n - i)) ∧ i ≤ n := by
  obtain ⟨⟨w1, w2, w3, w4⟩, hse, ⟨m1, m2, m3, m4⟩, m5, hx1, hx2, s1, s2⟩ := mfacts hLR.out hma hmb hmid hn g3 g4
  have hcu := cut_of hLR.out (by omega) (by omega) hmid hn g3 g4 g6.out g7.out hsl hsr
  obtain ⟨P1, S1, A1, B1, C1, D1, X1⟩ := hcu.rot hsl hsr hst
  refine ⟨?_, m5⟩
  clear hLR hcu g6 g7 hsl hsr hst hmid hn
  generalize n - i = e at *
  rw [hse] at B1 C1 X1
  have hmle : mid ≤ N := by omega
  have hele : e ≤ N := by omega
  refine ⟨fun h => rotF_id w2 w3 (by omega), fun eI h3 h1 h2 => hrotc iI mI eI i m e h1 h2 hele hiI hmI h3, fun h1 h2 => ih _ aI iI dI a i mid s1 h1 h2 hmle S1 A1 B1 haI hiI hd,
    fun h => ⟨PermOn.refl _ _ _, S1, srt_l w1 m1 A1 B1 h⟩, fun eI h0 Q2 h1 h2 h3 h4 => ih Q2 dI eI bI mid e b s2 h3 h4 hb h2 (C1.keep h1 (Nat.le_refl _)) (D1.keep h1 m2) hd h0 hbI,
    fun Q2 h1 h2 h => ⟨PermOn.refl _ _ _, h2, srt_l m2 w4 (C1.keep h1 (Nat.le_refl _)) (D1.keep h1 m2) h⟩, fun Q2 Q3 h1 h2 h3 h4 h5 => merge_fin P1 h1 h3 h4 X1 h2 h5 (Nat.le_of_lt m3) (Nat.le_of_lt m4), hx1, hx2⟩
/-- What is known of a round of the search. -/
structure MRd (k : Nat → Int) (p : Nat → Nat) (N n lo r0 i j h g : Nat) (iI jI : Int) (vb : BinOp → IntKind → Int → Int → Int) (vw : IntKind → Int → Int) (vtoN : Int → Nat) (pI : Int) : Prop where
  u : ∀ u : Int, u = vw .i64 (vb .shr .u64 (vw .u64 (vb .add .i64 iI jI)) 1) → u = (h : Int) ∧ vtoN u = h ∧ InR u N
  v : ∀ u v : Int, u = (h : Int) → v = vb .sub .i64 pI u → vtoN v = g ∧ InR v N
  lh : h < N
  lg : g < N
  l0 : 0 < N
  a : ¬ k (p g) < k (p h) → ∀ u v : Int, u = (h : Int) → v = vb .add .i64 u 1 → ∃ h1 : Nat, (v = h1 ∧ jI = j ∧ lo ≤ h1 ∧ h1 ≤ j ∧ j ≤ r0 ∧ LoF k p n lo h1 ∧ HiF k p n j r0) ∧ j - h1 < j - i
  b : k (p g) < k (p h) → ∀ u : Int, u = (h : Int) → (iI = i ∧ u = h ∧ lo ≤ i ∧ i ≤ h ∧ h ≤ r0 ∧ LoF k p n lo i ∧ HiF k p n h r0) ∧ h - i < j - i
theorem mrd {k : Nat → Int} {p : Nat → Nat} {N a m mid b n lo r0 i j : Nat} {iI jI pI : Int} {vb : BinOp → IntKind → Int → Int → Int} {vw : IntKind → Int → Int} {vtoN : Int → Nat} (hN : N ≤ 100000) (hb : b ≤ N) (h1 : a + 1 < m) (h2 : m + 1 < b) (hsl : Srt k p a m) (hsr : Srt k p m b)
    (qb : vb = bV) (qw : vw = fun k x => k.wrap x) (qtoN : vtoN = fun n => n.toNat) (hmid : mid = (a + b) / 2) (hn : n = mid + m) (hp : pI = ((n - 1 : Nat) : Int)) (hLR : LRi a m b mid n lo r0) (g1 : iI = i) (g2 : jI = j) (g3 : lo ≤ i) (hij : i < j) (g5 : j ≤ r0) (g6 : LoF k p n lo i) (g7 : HiF k p n j r0) :
    MRd k p N n lo r0 i j ((i + j) / 2) (n - 1 - (i + j) / 2) iI jI vb vw vtoN pI := by
  obtain ⟨l1, l2, l3, l4⟩ := hLR.out.in (by omega) (by omega) hmid hn
  have hh0 : i ≤ (i + j) / 2 ∧ (i + j) / 2 < j := by omega
  have r1 := bin_lo (c := (i + j) / 2) hsl hsr l1 l2 l4 (by omega) (by omega)
  have r2 := bin_hi (c := (i + j) / 2) hsl hsr l1 l2 l4 (by omega) (by omega)
  obtain ⟨l5, l6, l7⟩ := l4 ((i + j) / 2) (by omega) (by omega)
  have hhalf : vw .i64 (vb .shr .u64 (vw .u64 (vb .add .i64 iI jI)) 1) = (((i + j) / 2 : Nat) : Int) := by
    rw [g1, g2, qb, qw, add_i64 (by omega) (by omega), show (i : Int) + (j : Int) = ((i + j : Nat) : Int) by omega]; exact half_eq (by omega)
  generalize hh : (i + j) / 2 = h at *
  generalize hg : n - 1 - h = g at *
  have hgN : g < N := by omega
  have hnn : n - 1 < 1000000 ∧ h ≤ n - 1 ∧ g = n - 1 - h := by omega
  clear hmid hn hLR l4 hsl hsr
  refine ⟨fun u hu => ?_, fun u v hu hv => ?_, by omega, hgN, by omega, fun hk u v hu hv => ⟨h + 1, ⟨?_, g2, by omega, by omega, g5, LoF.of (r1 hk), g7⟩, by omega⟩, fun hk u hu => ⟨⟨g1, hu, g3, by omega, by omega, g6, HiF.of (r2 hk)⟩, by omega⟩⟩
  · have e : u = (h : Int) := by rw [hu, hhalf]
    exact ⟨e, by rw [qtoN, e]; rfl, ⟨by omega⟩⟩
  · have e : v = (g : Int) := by rw [hv, qb, hp, hu, sub_i64 (by omega) (by omega)]; omega
    exact ⟨by rw [qtoN, e]; rfl, ⟨by omega⟩⟩
  · rw [hv, qb, hu, add_i64 (by omega) (by omega)]; omega
set_option maxRecDepth 100000 in
set_option maxHeartbeats 8000000 in
theorem merge3_con (k : Nat → Int) (x l c p : Nat → Nat) (N C cap a m b : Nat) (hN : N ≤ 100000) (hma : a + 1 < m) (hmb : m + 1 < b) (hb : b ≤ N) (hst : St k p) (hsl : Srt k p a m) (hsr : Srt k p m b)
    (ih : ∀ (q : Nat → Nat) (aI mI bI : Int) (a' m' b' : Nat), b' - a' < b - a → a' < m' → m' < b' → b' ≤ N → St k q → Srt k q a' m' → Srt k q m' b' → aI = a' → mI = m' → bI = b' →
      Con Try.prog 144 [.slice 0 .z 2 N cap, .int .i64 aI, .int .i64 mI, .int .i64 bI, .fn 111 [.ptr 1 .z 1 0]] [coinB k x l c N C q, .one 110 [.fn 63 []]]
      (fun v H R => v = .tup [] ∧ R = [] ∧ ∃ r, (PermOn q r a' b' ∧ St k r ∧ Srt k r a' b') ∧ H = [coinB k x l c N C r, .one 110 [.fn 63 []]])) :
    Con Try.prog 144 [.slice 0 .z 2 N cap, .int .i64 a, .int .i64 m, .int .i64 b, .fn 111 [.ptr 1 .z 1 0]] [coinB k x l c N C p, .one 110 [.fn 63 []]]
    (fun v H R => v = .tup [] ∧ R = [] ∧ ∃ q, (PermOn p q a b ∧ St k q ∧ Srt k q a b) ∧ H = [coinB k x l c N C q, .one 110 [.fn 63 []]]) := by
  have hcmp := cmpV_con
  have hrotc : ∀ (sI mI eI : Int) (s m e : Nat), s < m → m < e → e ≤ N → sI = s → mI = m → eI = e → Con Try.prog 145 [.slice 0 .z 2 N cap, .int .i64 sI, .int .i64 mI, .int .i64 eI, .fn 111 [.ptr 1 .z 1 0]] [coinB k x l c N C p, .one 110 [.fn 63 []]]
      (fun v H R => v = .tup [] ∧ R = [] ∧ H = [coinB k x l c N C (rotF p s m e), .one 110 [.fn 63 []]]) := fun sI mI eI s m e g1 g2 g3 e1 e2 e3 => by
    subst e1 e2 e3; exact rot_con k x l c p N C cap s m e hN g1 g2 g3
  refine con_gen (con_cut 2 (by simp) (con_drop (con_walk hmix fn144 ?_)))
  intro vb vc vw vtoN vofN vaddN vsubN vmaxI vminI vcutN vgd vst vln vrep vsub vonto vsplice vstrEq vbyteV vnotB veqB hw qb qc qw qtoN qofN qaddN qsubN qmaxI qminI qcutN qgd qst qln qrep qsub qonto qsplice qstrEq qbyteV qnotB qeqB
  have hm := hmix; generalize Try.prog = P at *
  have hadd : ∀ (x y : Int) (i j : Nat), x = i → y = j → i + j < 1000000 → vb .add .i64 x y = ((i + j : Nat) : Int) := fun x y i j h1 h2 h => by rw [qb, add_i64 (by omega) (by omega)]; omega
  have hsub : ∀ (x y : Int) (i j : Nat), x = i → y = j → j ≤ i → i < 1000000 → vb .sub .i64 x y = ((i - j : Nat) : Int) := fun x y i j h1 h2 h h' => by rw [qb, sub_i64 (by omega) (by omega)]; omega
  have hadd0 : ∀ i, vaddN 0 i = i := fun i => by simp only [qaddN, Nat.zero_add]
  have hsg : ∀ a b, vc .lss (sgnV a b) 0 = decide (a < b) := fun a b => by
    rw [qc]; simp only [cV]; rw [decide_eq_decide]; exact sgnV_lt
  have hhalf : ∀ (x y : Int) (i j : Nat), x = i → y = j → i + j < 1000000 → vw .i64 (vb .shr .u64 (vw .u64 (vb .add .i64 x y)) 1) = (((i + j) / 2 : Nat) : Int) := fun x y i j h1 h2 h => by
    rw [hadd x y i j h1 h2 h, qb, qw]; exact half_eq (by omega)
  have hswp := @swp_perm
  have hswst := @swp_st
  generalize hSg : sgnV = SG at *
  generalize haI : (a : Int) = aI at *
  generalize hbI : (b : Int) = bI at *
  generalize hmI : (m : Int) = mI at *
  have e1 : vc .eql (vb .sub .i64 mI aI) 1 = false := by rw [hsub mI aI m a hmI.symm haI.symm (by omega) (by omega), qc, eql_false]; omega
  have e2 : vc .eql (vb .sub .i64 bI mI) 1 = false := by rw [hsub bI mI b m hbI.symm hmI.symm (by omega) (by omega), qc, eql_false]; omega
  obtain ⟨mid, hmid⟩ : ∃ mid, mid = (a + b) / 2 := ⟨_, rfl⟩
  obtain ⟨n, hn⟩ : ∃ n, n = mid + m := ⟨_, rfl⟩
  obtain ⟨dI, hd⟩ : ∃ u, u = vw .i64 (vb .shr .u64 (vw .u64 (vb .add .i64 aI bI)) 1) := ⟨_, rfl⟩
  have hd' : dI = (mid : Int) := by rw [hd, hhalf aI bI a b haI.symm hbI.symm (by omega), hmid]
  obtain ⟨nI, hnI⟩ : ∃ u, u = vb .add .i64 dI mI := ⟨_, rfl⟩
  have hnI' : nI = (n : Int) := by rw [hnI, hadd dI mI mid m hd' hmI.symm (by omega), hn]
  obtain ⟨pI, hpI⟩ : ∃ u, u = vb .sub .i64 nI 1 := ⟨_, rfl⟩
  have hpI' : pI = ((n - 1 : Nat) : Int) := by rw [hpI, hsub nI 1 n 1 hnI' rfl (by omega) (by omega)]
  have hgt : vc .gtr mI dI = decide (mid < m) := by rw [qc]; simp only [cV]; rw [decide_eq_decide, ← hmI, hd']; omega
  have hLR1 : mid < m → ∀ u : Int, u = vb .sub .i64 nI bI → u = ((n - b : Nat) : Int) ∧ dI = (mid : Int) ∧ LRi a m b mid n (n - b) mid := fun h u hu => ⟨hu.trans (hsub nI bI n b hnI' hbI.symm (by omega) (by omega)), hd', LRi.of (.inl ⟨h, rfl, rfl⟩)⟩
  have hLR2 : ¬ mid < m → aI = (a : Int) ∧ mI = (m : Int) ∧ LRi a m b mid n a m := fun h => ⟨haI.symm, hmI.symm, LRi.of (.inr ⟨by omega, rfl, rfl⟩)⟩
  have hexit := fun (lo r0 i : Nat) (iI : Int) (hiI : iI = (i : Int)) => mex (iI := iI) (lo := lo) (r0 := r0) hb hma hmb hst hsl hsr ih hrotc hmid hn haI.symm hiI hd' hmI.symm hbI.symm
  have hround := fun (lo r0 i j : Nat) (iI jI : Int) (h0 : LRi a m b mid n lo r0) (h1 : iI = (i : Int)) (h2 : jI = (j : Int)) => mrd hN hb hma hmb hsl hsr qb qw qtoN hmid hn hpI' h0 h1 h2
  have hl3 : ∀ lo r0, LRi a m b mid n lo r0 → lo ≤ r0 := fun lo r0 h => (h.out.in (by omega) (by omega) hmid hn).2.2.1
  have hsubn : ∀ (iI u : Int) (i : Nat), iI = (i : Int) → i ≤ n → u = vb .sub .i64 nI iI → u = ((n - i : Nat) : Int) := fun iI u i h1 h2 h3 => by rw [h3]; exact hsub nI iI n i hnI' h1 h2 (by omega)
  have hlss : ∀ (x y : Int) (i j : Nat), x = i → y = j → vc .lss x y = decide (i < j) := fun x y i j h1 h2 => by rw [qc]; exact lss_nat h1 h2
  have hnt : vnotB true = false := by simp only [qnotB]; rfl
  have hnf : vnotB false = true := by simp only [qnotB]; rfl
  have haI2 := haI.symm; have hmI2 := hmI.symm; have hbI2 := hbI.symm
  clear ih hrotc hst hsl hsr hhalf hadd hsub hswp hswst hpI' hnI' hN hma hmb hb
  cbv
  rw [e1]
  cbv
  rw [e2]
  cbv
  rw [← hd]
  rw [← hnI]
  rw [hgt]
  refine' key5 _ (fun (js : Nat → Value) (loI rI : Int) (lo r0 : Nat) => loI = lo ∧ rI = r0 ∧ LRi a m b mid n lo r0) (fun key => ?_) ?_
  rotate_left
  · by_cases hgm : mid < m
    · rw [decide_eq_true hgm]
      cbv
      obtain ⟨u, hu⟩ : ∃ u, u = vb .sub .i64 nI bI := ⟨_, rfl⟩
      rw [← hu, ← hpI]
      obtain ⟨rI, hrI⟩ : ∃ r, r = dI := ⟨_, rfl⟩
      obtain ⟨lo, hlo⟩ : ∃ r, r = n - b := ⟨_, rfl⟩
      obtain ⟨r0, hr0⟩ : ∃ r, r = mid := ⟨_, rfl⟩
      have hfin : u = lo ∧ rI = r0 ∧ LRi a m b mid n lo r0 := by rw [hlo, hrI, hr0]; exact hLR1 hgm u hu
      refine WX.cv (Cv.slotEq 21 (.int .i64 rI) (by rfl) (fun σ => by rw [hrI]) (Cv.fold [138, 139, 140, 141, 142, 143, 144, 145, 146, 147, 148, 149, 150, 151, 152, 153, 154, 155, 156, 157, 158, 159, 160, 161, 162, 163, 164, 165, 166, 167, 168, 169, 170, 171, 172, 173, 174] 2 [] (by exact Nat.le_refl _) (by exact Nat.le_of_ble_eq_true rfl) (by rfl) (by cbv) ?_))
      intro js
      cbv
      exact key js u rI lo r0 hfin
    · rw [decide_eq_false hgm]
      cbv
      rw [← hpI]
      obtain ⟨u, hu⟩ : ∃ r, r = aI := ⟨_, rfl⟩
      obtain ⟨rI, hrI⟩ : ∃ r, r = mI := ⟨_, rfl⟩
      obtain ⟨lo, hlo⟩ : ∃ r, r = a := ⟨_, rfl⟩
      obtain ⟨r0, hr0⟩ : ∃ r, r = m := ⟨_, rfl⟩
      have hfin : u = lo ∧ rI = r0 ∧ LRi a m b mid n lo r0 := by rw [hlo, hrI, hr0, hu]; exact hLR2 hgm
      refine WX.cv (Cv.slotEq 20 (.int .i64 u) (by rfl) (fun σ => by rw [hu]) (Cv.slotEq 21 (.int .i64 rI) (by rfl) (fun σ => by rw [hrI]) (Cv.fold [138, 139, 140, 141, 142, 143, 144, 145, 146, 147, 148, 149, 150, 151, 152, 153, 154, 155, 156, 157, 158, 159, 160, 161, 162, 163, 164, 165, 166, 167, 168, 169, 170, 171, 172, 173, 174] 2 [] (by exact Nat.le_refl _) (by exact Nat.le_of_ble_eq_true rfl) (by rfl) (by cbv) ?_)))
      intro js
      cbv
      exact key js u rI lo r0 hfin
  rintro js loI rI lo r0 ⟨hlo, hr0, hLR⟩
  have hinv0 : loI = lo ∧ rI = r0 ∧ lo ≤ lo ∧ lo ≤ r0 ∧ r0 ≤ r0 ∧ LoF k p n lo lo ∧ HiF k p n r0 r0 := ⟨hlo, hr0, Nat.le_refl _, hl3 lo r0 hLR, Nat.le_refl _, LoF.of (fun x h1 h2 => absurd h1 (Nat.not_le_of_lt h2)), HiF.of (fun x h1 h2 => absurd h1 (Nat.not_le_of_lt h2))⟩
  clear hLR1 hLR2 hgt hd hnI hpI e1 e2 hl3
  refine loop_fam (α := Int × Int × Nat × Nat) ([23] ++ [138, 139, 140, 141, 142, 143, 144, 145, 146, 147, 148, 149, 150, 151, 152, 153, 154, 155, 156, 157, 158, 159, 160, 161, 162, 163, 164, 165, 166, 167, 168, 169, 170, 171, 172, 173, 174]) []
    (fun (iI, jI, i, j) => [(20, .int .i64 iI), (21, .int .i64 jI)])
    (fun (iI, jI, i, j) => [])
    (fun (iI, jI, i, j) => iI = i ∧ jI = j ∧ lo ≤ i ∧ i ≤ j ∧ j ≤ r0 ∧ LoF k p n lo i ∧ HiF k p n j r0)
    (fun (iI, jI, i, j) => j - i) hw hm ?_ ?_
  · refine Cv.fold ([23] ++ [138, 139, 140, 141, 142, 143, 144, 145, 146, 147, 148, 149, 150, 151, 152, 153, 154, 155, 156, 157, 158, 159, 160, 161, 162, 163, 164, 165, 166, 167, 168, 169, 170, 171, 172, 173, 174]) 2 [] (by exact Nat.le_refl _) (by exact Nat.le_of_ble_eq_true rfl) (by rfl) (by cbv) ?_
    intro js2
    exact ⟨(_, _, _, _), hinv0, js2, rfl⟩
  · rintro ⟨iI, jI, i, j⟩ js2 ⟨g1, g2, g3, g4, g5, g6, g7⟩
    clear hinv0
    have hc1 := hlss iI jI i j g1 g2
    by_cases hij : i < j
    rotate_left
    · have hc2 : vc .lss iI jI = false := by rw [hc1]; exact decide_eq_false hij
      have hE := hexit lo r0 i iI g1 hLR g3 (Nat.le_trans g4 g5) g6 (by rw [show i = j from Nat.le_antisymm g4 (Nat.le_of_not_lt hij)]; exact g7)
      have he0 := hsubn iI (vb .sub .i64 nI iI) i g1 hE.2 rfl
      have hE1 := hE.1
      clear hE
      refine Exists.elim (⟨n - i, rfl⟩ : ∃ e, e = n - i) (fun e he => ?_)
      refine Exists.elim (⟨rotF p i m (n - i), rfl⟩ : ∃ Q1, Q1 = rotF p i m (n - i)) (fun Q1 hQ1 => ?_)
      rw [← hQ1, ← he] at hE1
      rw [← he] at he0
      refine Exists.elim (⟨vb .sub .i64 nI iI, rfl⟩ : ∃ eI, eI = vb .sub .i64 nI iI) (fun eI heI => ?_)
      rw [← heI] at he0
      have q1 := hlss iI mI i m g1 hmI2
      have q2' := hlss mI eI m e hmI2 he0
      have q3 := hlss aI iI a i haI2 g1
      have q4 := hlss iI dI i mid g1 hd'
      have q5' := hlss dI eI mid e hd' he0
      have q6' := hlss eI bI e b he0 hbI2
      have hrid := hE1.rid
      have hR' := hE1.rot eI he0
      have R1 := hE1.r1
      have N1 := hE1.n1
      have R2' := hE1.r2 eI he0
      have N2 := hE1.n2
      have FIN := hE1.fin
      have hx1 := hE1.x1
      have hx2 := hE1.x2
      clear hE1 hc1 he0 hexit hround hlss hsubn g1 g2 g3 g4 g5 g6 g7 hLR hmid hn hcmp hadd0 hsg he hQ1 hnt hnf hij haI2 hmI2 hbI2 hd' hlo hr0
      generalize @PermOn = PO at *
      generalize @St = ST at *
      generalize @Srt = SR at *
      cbv
      rw [hc2]
      cbv
      rw [← heI, q1]
      by_cases t1 : i < m
      rotate_left
      · have hp := hrid (fun h => t1 h.1)
        clear hrid hR' q2'
        subst hp
        rw [decide_eq_false t1]
        cbv
        rw [q3]
        by_cases u3 : a < i
        · rw [decide_eq_true u3]
          cbv
          rw [q4]
          by_cases u4 : i < mid
          · rw [decide_eq_true u4]
            cbv
            refine call_con (ρ := [(0, .z), (1, .z)]) (R1 u3 u4) ⟨by rfl, by rfl, by rfl, by cbv; rw [ren_coin]; ((repeat' first | (refine And.intro ?_ ?_) | exact trivial | exact ⟨Nat.le_refl _⟩ | exact view_refl _ | exact fun _ => rfl | (simp only [renL3]; done) | (show SB.roA _ _ _ = SB.roA _ _ _; rfl) | exact funext fun _ => rfl) <;> rfl)⟩ ?_
            rintro v2 H R js12 ⟨rfl, rfl, r2, h1, rfl⟩
            cbv
            (repeat refine And.intro (fun _ => rfl) ?_)
            rw [ren_coin]
            cbv
            rw [q5']
            rw [decide_eq_false (hx1 t1)]
            cbv
            obtain ⟨z1, z2, z3⟩ := N2 r2 h1.1 h1.2.1 (fun h => hx1 t1 h.1)
            exact ⟨r2, FIN r2 r2 h1.1 h1.2.2 z1 z2 z3, rfl⟩
          · rw [decide_eq_false u4]
            cbv
            have h1 := N1 (fun h => u4 h.2)
            rw [q5']
            rw [decide_eq_false (hx1 t1)]
            cbv
            obtain ⟨z1, z2, z3⟩ := N2 Q1 h1.1 h1.2.1 (fun h => hx1 t1 h.1)
            exact ⟨Q1, FIN Q1 Q1 h1.1 h1.2.2 z1 z2 z3, rfl⟩
        · rw [decide_eq_false u3]
          cbv
          have h1 := N1 (fun h => u3 h.1)
          rw [q5']
          rw [decide_eq_false (hx1 t1)]
          cbv
          obtain ⟨z1, z2, z3⟩ := N2 Q1 h1.1 h1.2.1 (fun h => hx1 t1 h.1)
          exact ⟨Q1, FIN Q1 Q1 h1.1 h1.2.2 z1 z2 z3, rfl⟩
      · rw [decide_eq_true t1]
        cbv
        rw [q2']
        by_cases t2 : m < e
        · skip
          rw [decide_eq_true t2]
          cbv
          refine call_con (ρ := [(0, .z), (1, .z)]) (hR' t1 t2) ⟨by rfl, by rfl, by rfl, by cbv; rw [ren_coin]; ((repeat' first | (refine And.intro ?_ ?_) | exact trivial | exact ⟨Nat.le_refl _⟩ | exact view_refl _ | exact fun _ => rfl | (simp only [renL3]; done) | (show SB.roA _ _ _ = SB.roA _ _ _; rfl) | exact funext fun _ => rfl) <;> rfl)⟩ ?_
          rintro v1 H R js11 ⟨rfl, rfl, rfl⟩
          cbv
          (repeat refine And.intro (fun _ => rfl) ?_)
          rw [ren_coin]
          cbv
          rw [q3]
          by_cases u3 : a < i
          · rw [decide_eq_true u3]
            cbv
            rw [q4]
            by_cases u4 : i < mid
            · rw [decide_eq_true u4]
              cbv
              refine call_con (ρ := [(0, .z), (1, .z)]) (R1 u3 u4) ⟨by rfl, by rfl, by rfl, by cbv; rw [ren_coin]; ((repeat' first | (refine And.intro ?_ ?_) | exact trivial | exact ⟨Nat.le_refl _⟩ | exact view_refl _ | exact fun _ => rfl | (simp only [renL3]; done) | (show SB.roA _ _ _ = SB.roA _ _ _; rfl) | exact funext fun _ => rfl) <;> rfl)⟩ ?_
              rintro v2 H R js12 ⟨rfl, rfl, r2, h1, rfl⟩
              cbv
              (repeat refine And.intro (fun _ => rfl) ?_)
              rw [ren_coin]
              cbv
              rw [q5']
              by_cases u1 : mid < e
              · rw [decide_eq_true u1]
                cbv
                rw [q6']
                by_cases u2 : e < b
                · skip
                  rw [decide_eq_true u2]
                  cbv
                  refine call_con (ρ := [(0, .z), (1, .z)]) (R2' r2 h1.1 h1.2.1 u1 u2) ⟨by rfl, by rfl, by rfl, by cbv; rw [ren_coin]; ((repeat' first | (refine And.intro ?_ ?_) | exact trivial | exact ⟨Nat.le_refl _⟩ | exact view_refl _ | exact fun _ => rfl | (simp only [renL3]; done) | (show SB.roA _ _ _ = SB.roA _ _ _; rfl) | exact funext fun _ => rfl) <;> rfl)⟩ ?_
                  rintro v3 H R js13 ⟨rfl, rfl, r3, ⟨z1, z2, z3⟩, rfl⟩
                  cbv
                  (repeat refine And.intro (fun _ => rfl) ?_)
                  rw [ren_coin]
                  cbv
                  exact ⟨r3, FIN r2 r3 h1.1 h1.2.2 z1 z2 z3, rfl⟩
                · skip
                  rw [decide_eq_false u2]
                  cbv
                  obtain ⟨z1, z2, z3⟩ := N2 r2 h1.1 h1.2.1 (fun h => u2 h.2)
                  exact ⟨r2, FIN r2 r2 h1.1 h1.2.2 z1 z2 z3, rfl⟩
              · rw [decide_eq_false u1]
                cbv
                obtain ⟨z1, z2, z3⟩ := N2 r2 h1.1 h1.2.1 (fun h => u1 h.1)
                exact ⟨r2, FIN r2 r2 h1.1 h1.2.2 z1 z2 z3, rfl⟩
            · rw [decide_eq_false u4]
              cbv
              have h1 := N1 (fun h => u4 h.2)
              rw [q5']
              by_cases u1 : mid < e
              · rw [decide_eq_true u1]
                cbv
                rw [q6']
                by_cases u2 : e < b
                · skip
                  rw [decide_eq_true u2]
                  cbv
                  refine call_con (ρ := [(0, .z), (1, .z)]) (R2' Q1 h1.1 h1.2.1 u1 u2) ⟨by rfl, by rfl, by rfl, by cbv; rw [ren_coin]; ((repeat' first | (refine And.intro ?_ ?_) | exact trivial | exact ⟨Nat.le_refl _⟩ | exact view_refl _ | exact fun _ => rfl | (simp only [renL3]; done) | (show SB.roA _ _ _ = SB.roA _ _ _; rfl) | exact funext fun _ => rfl) <;> rfl)⟩ ?_
                  rintro v3 H R js13 ⟨rfl, rfl, r3, ⟨z1, z2, z3⟩, rfl⟩
                  cbv
                  (repeat refine And.intro (fun _ => rfl) ?_)
                  rw [ren_coin]
                  cbv
                  exact ⟨r3, FIN Q1 r3 h1.1 h1.2.2 z1 z2 z3, rfl⟩
                · skip
                  rw [decide_eq_false u2]
                  cbv
                  obtain ⟨z1, z2, z3⟩ := N2 Q1 h1.1 h1.2.1 (fun h => u2 h.2)
                  exact ⟨Q1, FIN Q1 Q1 h1.1 h1.2.2 z1 z2 z3, rfl⟩
              · rw [decide_eq_false u1]
                cbv
                obtain ⟨z1, z2, z3⟩ := N2 Q1 h1.1 h1.2.1 (fun h => u1 h.1)
                exact ⟨Q1, FIN Q1 Q1 h1.1 h1.2.2 z1 z2 z3, rfl⟩
          · rw [decide_eq_false u3]
            cbv
            have h1 := N1 (fun h => u3 h.1)
            rw [q5']
            by_cases u1 : mid < e
            · rw [decide_eq_true u1]
              cbv
              rw [q6']
              by_cases u2 : e < b
              · skip
                rw [decide_eq_true u2]
                cbv
                refine call_con (ρ := [(0, .z), (1, .z)]) (R2' Q1 h1.1 h1.2.1 u1 u2) ⟨by rfl, by rfl, by rfl, by cbv; rw [ren_coin]; ((repeat' first | (refine And.intro ?_ ?_) | exact trivial | exact ⟨Nat.le_refl _⟩ | exact view_refl _ | exact fun _ => rfl | (simp only [renL3]; done) | (show SB.roA _ _ _ = SB.roA _ _ _; rfl) | exact funext fun _ => rfl) <;> rfl)⟩ ?_
                rintro v3 H R js13 ⟨rfl, rfl, r3, ⟨z1, z2, z3⟩, rfl⟩
                cbv
                (repeat refine And.intro (fun _ => rfl) ?_)
                rw [ren_coin]
                cbv
                exact ⟨r3, FIN Q1 r3 h1.1 h1.2.2 z1 z2 z3, rfl⟩
              · skip
                rw [decide_eq_false u2]
                cbv
                obtain ⟨z1, z2, z3⟩ := N2 Q1 h1.1 h1.2.1 (fun h => u2 h.2)
                exact ⟨Q1, FIN Q1 Q1 h1.1 h1.2.2 z1 z2 z3, rfl⟩
            · rw [decide_eq_false u1]
              cbv
              obtain ⟨z1, z2, z3⟩ := N2 Q1 h1.1 h1.2.1 (fun h => u1 h.1)
              exact ⟨Q1, FIN Q1 Q1 h1.1 h1.2.2 z1 z2 z3, rfl⟩
        · have hp := hrid (fun h => t2 h.2)
          clear hrid hR'
          subst hp
          rw [decide_eq_false t2]
          cbv
          rw [q3]
          have u3 := (hx2 t1 t2).2.1
          have u4 := (hx2 t1 t2).1
          rw [decide_eq_true u3]
          cbv
          rw [q4]
          rw [decide_eq_false u4]
          cbv
          have h1 := N1 (fun h => u4 h.2)
          rw [q5']
          by_cases u1 : mid < e
          · rw [decide_eq_true u1]
            cbv
            rw [q6']
            have u2 := (hx2 t1 t2).2.2
            rw [decide_eq_true u2]
            cbv
            refine call_con (ρ := [(0, .z), (1, .z)]) (R2' Q1 h1.1 h1.2.1 u1 u2) ⟨by rfl, by rfl, by rfl, by cbv; rw [ren_coin]; ((repeat' first | (refine And.intro ?_ ?_) | exact trivial | exact ⟨Nat.le_refl _⟩ | exact view_refl _ | exact fun _ => rfl | (simp only [renL3]; done) | (show SB.roA _ _ _ = SB.roA _ _ _; rfl) | exact funext fun _ => rfl) <;> rfl)⟩ ?_
            rintro v3 H R js13 ⟨rfl, rfl, r3, ⟨z1, z2, z3⟩, rfl⟩
            cbv
            (repeat refine And.intro (fun _ => rfl) ?_)
            rw [ren_coin]
            cbv
            exact ⟨r3, FIN Q1 r3 h1.1 h1.2.2 z1 z2 z3, rfl⟩
          · rw [decide_eq_false u1]
            cbv
            obtain ⟨z1, z2, z3⟩ := N2 Q1 h1.1 h1.2.1 (fun h => u1 h.1)
            exact ⟨Q1, FIN Q1 Q1 h1.1 h1.2.2 z1 z2 z3, rfl⟩
    · have hc2 : vc .lss iI jI = true := by rw [hc1]; exact decide_eq_true hij
      have hE := hround lo r0 i j iI jI hLR g1 g2 g3 hij g5 g6 g7
      refine Exists.elim (⟨(i + j) / 2, rfl⟩ : ∃ h, h = (i + j) / 2) (fun h hh => ?_)
      rw [← hh] at hE
      refine Exists.elim (⟨n - 1 - h, rfl⟩ : ∃ g, g = n - 1 - h) (fun g hg => ?_)
      rw [← hg] at hE
      have hu0 := hE.u
      have hv0 := hE.v
      have hlh := hE.lh
      have hlg := hE.lg
      have hl0 := hE.l0
      have hA := fun (_ : Unit) => hE.a
      have hB := fun (_ : Unit) => hE.b
      clear hE hc1 hexit hround hlss hsubn hLR hmid hn hh hg haI2 hmI2 hbI2 hd' hlo hr0 g1 g2 g3 g4 g5 g6 g7 hij
      cbv
      rw [hc2]
      cbv
      obtain ⟨u, hu⟩ : ∃ u, u = vw .i64 (vb .shr .u64 (vw .u64 (vb .add .i64 iI jI)) 1) := ⟨_, rfl⟩
      obtain ⟨hu', htu, hru⟩ := hu0 u hu
      rw [← hu]
      obtain ⟨v, hv⟩ : ∃ v, v = vb .sub .i64 pI u := ⟨_, rfl⟩
      obtain ⟨htv, hrv⟩ := hv0 u v hu' hv
      rw [← hv, htu, htv, hadd0, hadd0]
      cbv
      repeat (refine And.intro (by first | exact hru | exact hrv | exact ⟨hlg⟩ | exact ⟨hlh⟩ | exact ⟨hl0⟩) ?_)
      refine call_con (ρ := [(1, .z)]) (hcmp _ _ _ _ _ _ _ _) ⟨by rfl, by rfl, by rfl, by cbv; exact ⟨fun _ => rfl, trivial⟩⟩ ?_
      rintro v H R js3 ⟨rfl, rfl, rfl⟩
      cbv
      (repeat refine And.intro (fun _ => rfl) ?_)
      rw [hsg]
      by_cases hk : k (p g) < k (p h)
      · rw [decide_eq_true hk]
        cbv
        rw [hnt]
        cbv
        have hfin := hB () hk u hu'
        refine Cv.fold ([23] ++ [138, 139, 140, 141, 142, 143, 144, 145, 146, 147, 148, 149, 150, 151, 152, 153, 154, 155, 156, 157, 158, 159, 160, 161, 162, 163, 164, 165, 166, 167, 168, 169, 170, 171, 172, 173, 174]) 2 [] (by exact Nat.le_refl _) (by exact Nat.le_of_ble_eq_true rfl) (by rfl) (by cbv) ?_
        intro js4
        exact ⟨(_, _, _, h), hfin, js4, rfl⟩
      · rw [decide_eq_false hk]
        cbv
        rw [hnf]
        cbv
        obtain ⟨w, hw1⟩ : ∃ v, v = vb .add .i64 u 1 := ⟨_, rfl⟩
        rw [← hw1]
        obtain ⟨h1, hfin⟩ := hA () hk u w hu' hw1
        refine Cv.fold ([23] ++ [138, 139, 140, 141, 142, 143, 144, 145, 146, 147, 148, 149, 150, 151, 152, 153, 154, 155, 156, 157, 158, 159, 160, 161, 162, 163, 164, 165, 166, 167, 168, 169, 170, 171, 172, 173, 174]) 2 [] (by exact Nat.le_refl _) (by exact Nat.le_of_ble_eq_true rfl) (by rfl) (by cbv) ?_
        intro js4
        exact ⟨(_, _, h1, _), hfin, js4, rfl⟩
theorem merge_con (k : Nat → Int) (x l c : Nat → Nat) (N C cap : Nat) (hN : N ≤ 100000) : ∀ (d : Nat) (p : Nat → Nat) (a m b : Nat), b - a ≤ d → a < m → m < b → b ≤ N → St k p → Srt k p a m → Srt k p m b →
    Con Try.prog 144 [.slice 0 .z 2 N cap, .int .i64 a, .int .i64 m, .int .i64 b, .fn 111 [.ptr 1 .z 1 0]] [coinB k x l c N C p, .one 110 [.fn 63 []]]
    (fun v H R => v = .tup [] ∧ R = [] ∧ ∃ q, (PermOn p q a b ∧ St k q ∧ Srt k q a b) ∧ H = [coinB k x l c N C q, .one 110 [.fn 63 []]]) := by
  intro d
  induction d with
  | zero => intro p a m b h1 h2 h3; omega
  | succ d ih =>
    intro p a m b h1 h2 h3 h4 h5 h6 h7
    by_cases c1 : m = a + 1
    · exact merge1_con k x l c p N C cap a m b hN c1 h3 h4 h5 h7
    · by_cases c2 : b = m + 1
      · exact merge2_con k x l c p N C cap a m b hN (by omega) c2 h4 h5 h6
      · refine merge3_con k x l c p N C cap a m b hN (by omega) (by omega) h4 h5 h6 h7 (fun q aI mI bI a' m' b' g1 g2 g3 g4 g5 g6 g7 e1 e2 e3 => ?_)
        subst e1 e2 e3
        exact ih q a' m' b' (by omega) g2 g3 g4 g5 g6 g7
end Go.Proofs.Ytodobmkflimfkaa
namespace Go.Proofs.Ytodobmkflimfkaa
/-! Runs, plainly. -/
@[irreducible] def RunsFrom (k : Nat → Int) (q : Nat → Nat) (B a n : Nat) : Prop := ∀ s, Srt k q (a + s * B) (min (a + (s + 1) * B) n)
@[irreducible] def RunsTo (k : Nat → Int) (q : Nat → Nat) (B a : Nat) : Prop := ∃ t, a = t * B ∧ ∀ s, s < t → Srt k q (s * B) ((s + 1) * B)
theorem RunsTo.nil {k : Nat → Int} {q : Nat → Nat} {B : Nat} : RunsTo k q B 0 := by
  unfold RunsTo; exact ⟨0, by simp, fun s h => by omega⟩
theorem RunsTo.next {k : Nat → Int} {q q' : Nat → Nat} {B a : Nat} (h : RunsTo k q B a) (hp : PermOn q q' a (a + B)) (hs : Srt k q' a (a + B)) : RunsTo k q' B (a + B) := by
  unfold RunsTo at h ⊢
  obtain ⟨t, ht, h⟩ := h
  refine ⟨t + 1, by rw [ht, Nat.succ_mul], fun s hst => ?_⟩
  by_cases e : s = t
  · subst e; rw [Nat.succ_mul, ← ht]; exact hs
  · have h1 := h s (by omega)
    have h2 : (s + 1) * B ≤ t * B := Nat.mul_le_mul_right _ (by omega)
    intro i j e1 e2 e3
    rw [hp.out i (by omega), hp.out j (by omega)]
    exact h1 i j e1 e2 e3
theorem runs_end {k : Nat → Int} {q q' : Nat → Nat} {B a n : Nat} (h : RunsTo k q B a) (ha : a ≤ n) (hn : n < a + B) (hp : PermOn q q' a n) (hs : Srt k q' a n) : RunsFrom k q' B 0 n := by
  unfold RunsTo at h
  unfold RunsFrom
  obtain ⟨t, ht, h⟩ := h
  intro s i j e1 e2 e3
  rw [Nat.zero_add] at e1 e3
  rcases Nat.lt_trichotomy s t with c | c | c
  · have h2 : (s + 1) * B ≤ t * B := Nat.mul_le_mul_right _ (by omega)
    rw [hp.out i (by omega), hp.out j (by omega)]
    exact h s c i j e1 e2 (by omega)
  · subst c
    exact hs i j (by omega) e2 (by omega)
  · have h2 : (t + 1) * B ≤ s * B := Nat.mul_le_mul_right _ (by omega)
    rw [Nat.succ_mul] at h2
    omega
theorem RunsFrom.two {k : Nat → Int} {q : Nat → Nat} {B a n : Nat} (h : RunsFrom k q B a n) : Srt k q a (min (a + B) n) ∧ Srt k q (a + B) (min (a + 2 * B) n) := by
  unfold RunsFrom at h
  have h0 := h 0
  have h1 := h 1
  simp only [Nat.zero_mul, Nat.add_zero, Nat.zero_add, Nat.one_mul] at h0 h1
  exact ⟨h0, h1⟩
theorem RunsFrom.next {k : Nat → Int} {q q' : Nat → Nat} {B a n : Nat} (h : RunsFrom k q B a n) (hp : PermOn q q' a (a + 2 * B)) : RunsFrom k q' B (a + 2 * B) n := by
  unfold RunsFrom at h ⊢
  intro s i j e1 e2 e3
  have h1 := h (s + 2) i j
  have e4 : (s + 2) * B = s * B + 2 * B := by rw [Nat.add_mul]
  have e5 : (s + 2 + 1) * B = (s + 1) * B + 2 * B := by rw [show s + 2 + 1 = (s + 1) + 2 by omega, Nat.add_mul]
  rw [e4, e5] at h1
  rw [hp.out i (by omega), hp.out j (by omega)]
  exact h1 (by omega) e2 (by omega)
/-- Half a run's length. -/
structure Half (k : Nat → Int) (q : Nat → Nat) (B a n : Nat) : Prop where
  to : RunsTo k q (2 * B) a
  fr : RunsFrom k q B a n
theorem Half.start {k : Nat → Int} {q : Nat → Nat} {B n : Nat} (h : RunsFrom k q B 0 n) : Half k q B 0 n := ⟨RunsTo.nil, h⟩
theorem Half.next {k : Nat → Int} {q q' : Nat → Nat} {B a n : Nat} (h : Half k q B a n) (hp : PermOn q q' a (a + 2 * B)) (hs : Srt k q' a (a + 2 * B)) : Half k q' B (a + 2 * B) n := ⟨h.to.next hp hs, h.fr.next hp⟩
theorem Half.pre {k : Nat → Int} {q : Nat → Nat} {B a n b : Nat} (h : Half k q B a n) (hb : b = min (a + 2 * B) n) (hm : a + B ≤ n) : Srt k q a (a + B) ∧ Srt k q (a + B) b := by
  obtain ⟨h1, h2⟩ := h.fr.two
  rw [Nat.min_eq_left hm] at h1
  rw [hb]; exact ⟨h1, h2⟩
theorem Half.fin1 {k : Nat → Int} {q q' : Nat → Nat} {B a n : Nat} (h : Half k q B a n) (ha : a ≤ n) (hn : n < a + 2 * B) (hp : PermOn q q' a n) (hs : Srt k q' a n) : RunsFrom k q' (2 * B) 0 n := runs_end h.to ha hn hp hs
theorem Half.fin2 {k : Nat → Int} {q : Nat → Nat} {B a n : Nat} (h : Half k q B a n) (ha : a ≤ n) (hn : n < a + 2 * B) (hb : n ≤ a + B) : RunsFrom k q (2 * B) 0 n := by
  obtain ⟨h1, h2⟩ := h.fr.two
  rw [Nat.min_eq_right hb] at h1
  exact runs_end h.to ha hn (PermOn.refl _ _ _) h1
theorem RunsFrom.done {k : Nat → Int} {q : Nat → Nat} {B n : Nat} (h : RunsFrom k q B 0 n) (hb : n ≤ B) : Srt k q 0 n := by
  obtain ⟨h1, _⟩ := h.two
  rw [Nat.zero_add, Nat.min_eq_right hb] at h1
  exact h1
end Go.Proofs.Ytodobmkflimfkaa
namespace Go.Proofs.Ytodobmkflimfkaa
open Go Go.Sx Go.Proofs
/-! The stable sort (137, 110), and rising (64). -/
section
attribute [local irreducible] St Srt
theorem leq_nat {x y : Int} {i j : Nat} (h1 : x = i) (h2 : y = j) : cV .leq x y = decide (i ≤ j) := by rw [leq_eq, decide_eq_decide]; omega
set_option maxRecDepth 100000 in
set_option maxHeartbeats 4000000 in
theorem stable_con (k : Nat → Int) (x l c p : Nat → Nat) (N C cap : Nat) (hN : N ≤ 100000) (hst : St k p) :
    Con Try.prog 137 [.slice 0 .z 2 N cap, .int .i64 N, .fn 111 [.ptr 1 .z 1 0]] [coinB k x l c N C p, .one 110 [.fn 63 []]]
    (fun v H R => v = .tup [] ∧ R = [] ∧ ∃ q, (PermOn p q 0 N ∧ St k q ∧ Srt k q 0 N) ∧ H = [coinB k x l c N C q, .one 110 [.fn 63 []]]) := by
  have hins : ∀ (q : Nat → Nat) (aI bI : Int) (a b : Nat), aI = a → bI = b → a ≤ b → b ≤ N → St k q → Con Try.prog 143 [.slice 0 .z 2 N cap, .int .i64 aI, .int .i64 bI, .fn 111 [.ptr 1 .z 1 0]] [coinB k x l c N C q, .one 110 [.fn 63 []]]
      (fun v H R => v = .tup [] ∧ R = [] ∧ ∃ r, (PermOn q r a b ∧ St k r ∧ Srt k r a b) ∧ H = [coinB k x l c N C r, .one 110 [.fn 63 []]]) := fun q aI bI a b e1 e2 g1 g2 g3 => by
    subst e1 e2; exact ins_con k x l c q N C cap a b hN g1 g2 g3
  have hmrg : ∀ (q : Nat → Nat) (aI mI bI : Int) (a m b : Nat), aI = a → mI = m → bI = b → a < m → m < b → b ≤ N → St k q → Srt k q a m ∧ Srt k q m b → Con Try.prog 144 [.slice 0 .z 2 N cap, .int .i64 aI, .int .i64 mI, .int .i64 bI, .fn 111 [.ptr 1 .z 1 0]] [coinB k x l c N C q, .one 110 [.fn 63 []]]
      (fun v H R => v = .tup [] ∧ R = [] ∧ ∃ r, (PermOn q r a b ∧ St k r ∧ Srt k r a b) ∧ H = [coinB k x l c N C r, .one 110 [.fn 63 []]]) := fun q aI mI bI a m b e1 e2 e3 g1 g2 g3 g4 g5 => by
    subst e1 e2 e3; exact merge_con k x l c N C cap hN (b - a) q a m b (Nat.le_refl _) g1 g2 g3 g4 g5.1 g5.2
  refine con_gen (con_cut 2 (by simp) (con_drop (con_walk hmix fn137 ?_)))
  intro vb vc vw vtoN vofN vaddN vsubN vmaxI vminI vcutN vgd vst vln vrep vsub vonto vsplice vstrEq vbyteV vnotB veqB hw qb qc qw qtoN qofN qaddN qsubN qmaxI qminI qcutN qgd qst qln qrep qsub qonto qsplice qstrEq qbyteV qnotB qeqB
  have hm := hmix; generalize Try.prog = P at *
  have hadd : ∀ (x y : Int) (i j : Nat), x = i → y = j → i + j < 1000000 → vb .add .i64 x y = ((i + j : Nat) : Int) := fun x y i j h1 h2 h => by rw [qb, add_i64 (by omega) (by omega)]; omega
  have hmul : ∀ (x : Int) (i : Nat), x = i → i < 1000000 → vb .mul .i64 2 x = ((2 * i : Nat) : Int) ∧ vb .mul .i64 x 2 = ((2 * i : Nat) : Int) := fun x i h1 h => by rw [qb, mul_i64 (by omega) (by omega), mul_i64 (by omega) (by omega)]; omega
  have hlss : ∀ (x y : Int) (i j : Nat), x = i → y = j → vc .lss x y = decide (i < j) := fun x y i j h1 h2 => by rw [qc]; exact lss_nat h1 h2
  have hleq : ∀ (x y : Int) (i j : Nat), x = i → y = j → vc .leq x y = decide (i ≤ j) := fun x y i j h1 h2 => by rw [qc]; exact leq_nat h1 h2
  generalize hNI0 : (N : Int) = NI at *
  have hNI : NI = (N : Int) := hNI0.symm
  clear hNI0
  have hinv0 : (0 : Int) = ((0 : Nat) : Int) ∧ (20 : Int) = ((0 + 20 : Nat) : Int) ∧ 0 ≤ N ∧ PermOn p p 0 N ∧ St k p ∧ RunsTo k p 20 0 := ⟨rfl, rfl, Nat.zero_le _, PermOn.refl _ _ _, hst, RunsTo.nil⟩
  cbv
  refine loop_fam (α := Int × Int × Nat × (Nat → Nat)) [11, 12, 13, 14, 15, 16, 17, 18, 19, 20, 21, 22] []
    (fun (aI, bI, a, q) => [(7, .int .i64 aI), (8, .int .i64 bI)])
    (fun (aI, bI, a, q) => [(0, coinB k x l c N C q)])
    (fun (aI, bI, a, q) => aI = a ∧ bI = ((a + 20 : Nat) : Int) ∧ a ≤ N ∧ PermOn p q 0 N ∧ St k q ∧ RunsTo k q 20 a)
    (fun (aI, bI, a, q) => N - a) hw hm ?_ ?_
  · refine Cv.genAt [7, 8] [] (Cv.fold [11, 12, 13, 14, 15, 16, 17, 18, 19, 20, 21, 22] 2 [] (by exact Nat.le_refl _) (by exact Nat.le_of_ble_eq_true rfl) (by rfl) (by cbv) ?_)
    intro js
    exact ⟨(_, _, 0, _), hinv0, js, rfl⟩
  rintro ⟨aI, bI, a, q⟩ js ⟨g1, g2, g3, g4, g5, g6⟩
  clear hinv0
  have hc1 := hleq bI NI (a + 20) N g2 hNI
  by_cases hb : a + 20 ≤ N
  · have hc2 : vc .leq bI NI = true := by rw [hc1]; exact decide_eq_true hb
    have hcall := hins q aI bI a (a + 20) g1 g2 (by omega) hb g5
    have hnx := hadd bI 20 (a + 20) 20 g2 rfl (by omega)
    have hfin : ∀ r, PermOn q r a (a + 20) → St k r → Srt k r a (a + 20) → (bI = ((a + 20 : Nat) : Int) ∧ vb .add .i64 bI 20 = ((a + 20 + 20 : Nat) : Int) ∧ a + 20 ≤ N ∧ PermOn p r 0 N ∧ St k r ∧ RunsTo k r 20 (a + 20)) ∧ N - (a + 20) < N - a := fun r h1 h2 h3 =>
      ⟨⟨g2, hnx, hb, g4.trans (h1.wide (Nat.zero_le _) hb), h2, g6.next h1 h3⟩, by omega⟩
    clear hnx hc1 hins hmrg g1 g2 g3 g4 g5 g6 hadd hmul hlss hleq
    generalize a + 20 = b at *
    generalize @PermOn = PO at *
    cbv
    rw [hc2]
    cbv
    refine call_con (ρ := [(0, .z), (1, .z)]) hcall ⟨by rfl, by rfl, by rfl, by cbv; rw [ren_coin]; ((repeat' first | (refine And.intro ?_ ?_) | exact trivial | exact ⟨Nat.le_refl _⟩ | exact view_refl _ | exact fun _ => rfl | (simp only [renL3]; done) | (show SB.roA _ _ _ = SB.roA _ _ _; rfl) | exact funext fun _ => rfl) <;> rfl)⟩ ?_
    rintro v H R js2 ⟨rfl, rfl, r, ⟨z1, z2, z3⟩, rfl⟩
    cbv
    (repeat refine And.intro (fun _ => rfl) ?_)
    rw [ren_coin]
    cbv
    have hf := hfin r z1 z2 z3
    refine Cv.fold [11, 12, 13, 14, 15, 16, 17, 18, 19, 20, 21, 22] 2 [] (by exact Nat.le_refl _) (by exact Nat.le_of_ble_eq_true rfl) (by rfl) (by cbv) ?_
    intro js3
    exact ⟨(_, _, b, _), hf, js3, rfl⟩
  · have hc2 : vc .leq bI NI = false := by rw [hc1]; exact decide_eq_false hb
    have hcall := hins q aI NI a N g1 hNI g3 (Nat.le_refl _) g5
    have hfin : ∀ r, PermOn q r a N → St k r → Srt k r a N → (20 : Int) = ((20 : Nat) : Int) ∧ 1 ≤ 20 ∧ 20 ≤ 2 * N + 20 ∧ PermOn p r 0 N ∧ St k r ∧ RunsFrom k r 20 0 N := fun r h1 h2 h3 =>
      ⟨rfl, by omega, by omega, g4.trans (h1.wide (Nat.zero_le _) (Nat.le_refl _)), h2, runs_end g6 g3 (by omega) h1 h3⟩
    clear hc1 hins g1 g2 g4 g5 g6
    cbv
    rw [hc2]
    cbv
    refine call_con (ρ := [(0, .z), (1, .z)]) hcall ⟨by rfl, by rfl, by rfl, by cbv; rw [ren_coin]; ((repeat' first | (refine And.intro ?_ ?_) | exact trivial | exact ⟨Nat.le_refl _⟩ | exact view_refl _ | exact fun _ => rfl | (simp only [renL3]; done) | (show SB.roA _ _ _ = SB.roA _ _ _; rfl) | exact funext fun _ => rfl) <;> rfl)⟩ ?_
    rintro v H R js2 ⟨rfl, rfl, r, ⟨z1, z2, z3⟩, rfl⟩
    cbv
    (repeat refine And.intro (fun _ => rfl) ?_)
    rw [ren_coin]
    cbv
    have hinv := hfin r z1 z2 z3
    clear hfin hcall hc2 z1 z2 z3 hb g3
    refine loop_fam (α := Int × Nat × (Nat → Nat)) ([7, 8, 9] ++ [28, 29, 30, 31, 32, 33, 34, 35, 36, 37, 38, 39, 40, 41, 42, 43, 44, 45, 46, 47, 48, 49, 50, 51, 52, 53, 54, 55, 56, 57, 58, 59, 60, 61, 62]) []
      (fun (sI, s, q) => [(6, .int .i64 sI)])
      (fun (sI, s, q) => [(0, coinB k x l c N C q)])
      (fun (sI, s, q) => sI = s ∧ 1 ≤ s ∧ s ≤ 2 * N + 20 ∧ PermOn p q 0 N ∧ St k q ∧ RunsFrom k q s 0 N)
      (fun (sI, s, q) => N - s) hw hm ?_ ?_
    · refine Cv.genAt [6] [] (Cv.fold ([7, 8, 9] ++ [28, 29, 30, 31, 32, 33, 34, 35, 36, 37, 38, 39, 40, 41, 42, 43, 44, 45, 46, 47, 48, 49, 50, 51, 52, 53, 54, 55, 56, 57, 58, 59, 60, 61, 62]) 2 [] (by exact Nat.le_refl _) (by exact Nat.le_of_ble_eq_true rfl) (by rfl) (by cbv) ?_)
      intro js
      exact ⟨(_, 20, _), hinv, js, rfl⟩
    rintro ⟨sI, s, q⟩ js ⟨g1, g2, g3, g4, g5, g6⟩
    clear hinv
    have hc1 := hlss sI NI s N g1 hNI
    by_cases hs : s < N
    rotate_left
    · have hc2 : vc .lss sI NI = false := by rw [hc1]; exact decide_eq_false hs
      have hfin : PermOn p q 0 N ∧ St k q ∧ Srt k q 0 N := ⟨g4, g5, g6.done (Nat.le_of_not_lt hs)⟩
      clear hc1 g4 g5 g6 hmrg g3
      generalize @PermOn = PO at *
      cbv
      rw [hc2]
      cbv
      exact ⟨q, hfin, rfl⟩
    · have hc2 : vc .lss sI NI = true := by rw [hc1]; exact decide_eq_true hs
      have hm1 := (hmul sI s g1 (by omega)).1
      have hm2 := (hmul sI s g1 (by omega)).2
      have hW3 : ∀ W, W = 2 * s → 1 ≤ W ∧ W ≤ 2 * N + 20 ∧ N - W < N - s := fun W h => by omega
      have hinv : (0 : Int) = ((0 : Nat) : Int) ∧ vb .mul .i64 2 sI = ((0 + 2 * s : Nat) : Int) ∧ 0 ≤ N ∧ PermOn p q 0 N ∧ St k q ∧ Half k q s 0 N := ⟨rfl, by rw [Nat.zero_add]; exact hm1, Nat.zero_le _, g4, g5, Half.start g6⟩
      clear g4 g5 g6 hc1 g3
      cbv
      rw [hc2]
      cbv
      refine loop_fam (α := Int × Int × Nat × (Nat → Nat)) [33, 34, 35, 36, 37, 38, 39, 40, 41, 42, 43, 44, 45, 46, 47, 48] []
        (fun (aI, bI, a, q) => [(7, .int .i64 aI), (8, .int .i64 bI)])
        (fun (aI, bI, a, q) => [(0, coinB k x l c N C q)])
        (fun (aI, bI, a, q) => aI = a ∧ bI = ((a + 2 * s : Nat) : Int) ∧ a ≤ N ∧ PermOn p q 0 N ∧ St k q ∧ Half k q s a N)
        (fun (aI, bI, a, q) => N - a) hw hm ?_ ?_
      · refine Cv.genAt [7, 8] [] (Cv.fold [33, 34, 35, 36, 37, 38, 39, 40, 41, 42, 43, 44, 45, 46, 47, 48] 2 [] (by exact Nat.le_refl _) (by exact Nat.le_of_ble_eq_true rfl) (by rfl) (by cbv) ?_)
        intro js2
        exact ⟨(_, _, 0, _), hinv, js2, rfl⟩
      rintro ⟨aI, bI, a, q⟩ js2 ⟨f1, f2, f3, f4, f5, f6⟩
      clear hinv
      have hc3 := hleq bI NI (a + 2 * s) N f2 hNI
      have has := hadd aI sI a s f1 g1 (by omega)
      by_cases hb : a + 2 * s ≤ N
      · have hc4 : vc .leq bI NI = true := by rw [hc3]; exact decide_eq_true hb
        have hcall := hmrg q aI (vb .add .i64 aI sI) bI a (a + s) (a + 2 * s) f1 has f2 (by omega) (by omega) hb f5 (f6.pre (Nat.min_eq_left hb).symm (by omega))
        have hnx := hadd bI (vb .mul .i64 2 sI) (a + 2 * s) (2 * s) f2 (by rw [hm1]) (by omega)
        have hfin : ∀ r, PermOn q r a (a + 2 * s) → St k r → Srt k r a (a + 2 * s) → (bI = ((a + 2 * s : Nat) : Int) ∧ vb .add .i64 bI (vb .mul .i64 2 sI) = ((a + 2 * s + 2 * s : Nat) : Int) ∧ a + 2 * s ≤ N ∧ PermOn p r 0 N ∧ St k r ∧ Half k r s (a + 2 * s) N) ∧ N - (a + 2 * s) < N - a := fun r h1 h2 h3 =>
          ⟨⟨f2, hnx, hb, f4.trans (h1.wide (Nat.zero_le _) hb), h2, f6.next h1 h3⟩, by omega⟩
        obtain ⟨W, hW⟩ : ∃ W, W = a + 2 * s := ⟨_, rfl⟩
        rw [← hW] at hcall hfin
        clear hnx hc3 hmrg f1 f2 f3 f4 f5 f6 hadd hmul hlss hleq has hm1 hm2 hb hW
        generalize @PermOn = PO at *
        cbv
        rw [hc4]
        cbv
        refine call_con (ρ := [(0, .z), (1, .z)]) hcall ⟨by rfl, by rfl, by rfl, by cbv; rw [ren_coin]; ((repeat' first | (refine And.intro ?_ ?_) | exact trivial | exact ⟨Nat.le_refl _⟩ | exact view_refl _ | exact fun _ => rfl | (simp only [renL3]; done) | (show SB.roA _ _ _ = SB.roA _ _ _; rfl) | exact funext fun _ => rfl) <;> rfl)⟩ ?_
        rintro v H R js3 ⟨rfl, rfl, r, ⟨z1, z2, z3⟩, rfl⟩
        cbv
        (repeat refine And.intro (fun _ => rfl) ?_)
        rw [ren_coin]
        cbv
        have hf := hfin r z1 z2 z3
        refine Cv.fold [33, 34, 35, 36, 37, 38, 39, 40, 41, 42, 43, 44, 45, 46, 47, 48] 2 [] (by exact Nat.le_refl _) (by exact Nat.le_of_ble_eq_true rfl) (by rfl) (by cbv) ?_
        intro js4
        exact ⟨(_, _, W, _), hf, js4, rfl⟩
      · have hc4 : vc .leq bI NI = false := by rw [hc3]; exact decide_eq_false hb
        have hc5 := hlss (vb .add .i64 aI sI) NI (a + s) N has hNI
        obtain ⟨W, hW⟩ : ∃ W, W = 2 * s := ⟨_, rfl⟩
        have hfinA : ∀ r, PermOn q r a N → St k r → Srt k r a N → (vb .mul .i64 sI 2 = (W : Int) ∧ 1 ≤ W ∧ W ≤ 2 * N + 20 ∧ PermOn p r 0 N ∧ St k r ∧ RunsFrom k r W 0 N) ∧ N - W < N - s := fun r h1 h2 h3 =>
          ⟨⟨by rw [hm2, hW], (hW3 W hW).1, (hW3 W hW).2.1, f4.trans (h1.wide (Nat.zero_le _) (Nat.le_refl _)), h2, by rw [hW]; exact f6.fin1 f3 (by omega) h1 h3⟩, (hW3 W hW).2.2⟩
        by_cases hms : a + s < N
        · have hc6 : vc .lss (vb .add .i64 aI sI) NI = true := by rw [hc5]; exact decide_eq_true hms
          have hcall := hmrg q aI (vb .add .i64 aI sI) NI a (a + s) N f1 has hNI (by omega) hms (Nat.le_refl _) f5 (f6.pre (by omega) (by omega))
          clear hW3 hc5 hc3 hmrg f1 f2 f3 f4 f5 f6 hadd hmul hlss hleq has hm1 hm2 hb hW hms
          generalize @PermOn = PO at *
          cbv
          rw [hc4]
          cbv
          rw [hc6]
          cbv
          refine call_con (ρ := [(0, .z), (1, .z)]) hcall ⟨by rfl, by rfl, by rfl, by cbv; rw [ren_coin]; ((repeat' first | (refine And.intro ?_ ?_) | exact trivial | exact ⟨Nat.le_refl _⟩ | exact view_refl _ | exact fun _ => rfl | (simp only [renL3]; done) | (show SB.roA _ _ _ = SB.roA _ _ _; rfl) | exact funext fun _ => rfl) <;> rfl)⟩ ?_
          rintro v H R js3 ⟨rfl, rfl, r, ⟨z1, z2, z3⟩, rfl⟩
          cbv
          (repeat refine And.intro (fun _ => rfl) ?_)
          rw [ren_coin]
          cbv
          have hf := hfinA r z1 z2 z3
          refine Cv.fold ([7, 8, 9] ++ [28, 29, 30, 31, 32, 33, 34, 35, 36, 37, 38, 39, 40, 41, 42, 43, 44, 45, 46, 47, 48, 49, 50, 51, 52, 53, 54, 55, 56, 57, 58, 59, 60, 61, 62]) 2 [] (by exact Nat.le_refl _) (by exact Nat.le_of_ble_eq_true rfl) (by rfl) (by cbv) ?_
          intro js4
          exact ⟨(_, W, _), hf, js4, rfl⟩
        · have hc6 : vc .lss (vb .add .i64 aI sI) NI = false := by rw [hc5]; exact decide_eq_false hms
          have hf : (vb .mul .i64 sI 2 = (W : Int) ∧ 1 ≤ W ∧ W ≤ 2 * N + 20 ∧ PermOn p q 0 N ∧ St k q ∧ RunsFrom k q W 0 N) ∧ N - W < N - s := ⟨⟨by rw [hm2, hW], (hW3 W hW).1, (hW3 W hW).2.1, f4, f5, by rw [hW]; exact f6.fin2 f3 (by omega) (by omega)⟩, (hW3 W hW).2.2⟩
          clear hfinA hW3 hc5 hc3 hmrg f1 f2 f3 f4 f5 f6 hadd hmul hlss hleq has hm1 hm2 hb hW hms
          generalize @PermOn = PO at *
          cbv
          rw [hc4]
          cbv
          rw [hc6]
          cbv
          refine Cv.fold ([7, 8, 9] ++ [28, 29, 30, 31, 32, 33, 34, 35, 36, 37, 38, 39, 40, 41, 42, 43, 44, 45, 46, 47, 48, 49, 50, 51, 52, 53, 54, 55, 56, 57, 58, 59, 60, 61, 62]) 2 [] (by exact Nat.le_refl _) (by exact Nat.le_of_ble_eq_true rfl) (by rfl) (by cbv) ?_
          intro js4
          exact ⟨(_, W, _), hf, js4, rfl⟩
set_option maxRecDepth 100000 in
theorem sortf_con (k : Nat → Int) (x l c p : Nat → Nat) (N C cap : Nat) (hN : N ≤ 100000) (hst : St k p) :
    Con Try.prog 110 [.slice 0 .z 2 N cap, .fn 111 [.ptr 1 .z 1 0]] [coinB k x l c N C p, .one 110 [.fn 63 []]]
    (fun v H R => v = .tup [] ∧ R = [] ∧ ∃ q, (PermOn p q 0 N ∧ St k q ∧ Srt k q 0 N) ∧ H = [coinB k x l c N C q, .one 110 [.fn 63 []]]) := by
  have hcall := stable_con k x l c p N C cap hN hst
  refine con_gen (con_cut 2 (by simp) (con_drop (con_walk hmix fn110 ?_)))
  intro vb vc vw vtoN vofN vaddN vsubN vmaxI vminI vcutN vgd vst vln vrep vsub vonto vsplice vstrEq vbyteV vnotB veqB hw qb qc qw qtoN qofN qaddN qsubN qmaxI qminI qcutN qgd qst qln qrep qsub qonto qsplice qstrEq qbyteV qnotB qeqB
  have hm := hmix; generalize Try.prog = P at *
  have hof : vofN N = (N : Int) := by rw [qofN]
  generalize hNI : (N : Int) = NI at *
  generalize @PermOn = PO at *
  cbv
  rw [hof]
  refine call_con (ρ := [(0, .z), (1, .z)]) hcall ⟨by rfl, by rfl, by rfl, by cbv; rw [ren_coin]; ((repeat' first | (refine And.intro ?_ ?_) | exact trivial | exact ⟨Nat.le_refl _⟩ | exact view_refl _ | exact fun _ => rfl | (simp only [renL3]; done) | (show SB.roA _ _ _ = SB.roA _ _ _; rfl) | exact funext fun _ => rfl) <;> rfl)⟩ ?_
  rintro v H R js2 ⟨rfl, rfl, r, hr, rfl⟩
  cbv
  (repeat refine And.intro (fun _ => rfl) ?_)
  rw [ren_coin]
  exact ⟨r, hr, rfl⟩
set_option maxRecDepth 100000 in
theorem rising_con (k : Nat → Int) (x l c p : Nat → Nat) (N C cap : Nat) (hN : N ≤ 100000) (hst : St k p) :
    Con Try.prog 64 [.slice 0 .z 2 N cap, .fn 63 []] [coinB k x l c N C p]
    (fun v H R => v = .slice 0 .z 2 N cap ∧ R = [] ∧ ∃ q, (PermOn p q 0 N ∧ St k q ∧ Srt k q 0 N) ∧ H = [coinB k x l c N C q]) := by
  have hcall := sortf_con k x l c p N C cap hN hst
  refine con_gen (con_cut 1 (by simp) (con_drop (con_walk hmix fn64 ?_)))
  intro vb vc vw vtoN vofN vaddN vsubN vmaxI vminI vcutN vgd vst vln vrep vsub vonto vsplice vstrEq vbyteV vnotB veqB hw qb qc qw qtoN qofN qaddN qsubN qmaxI qminI qcutN qgd qst qln qrep qsub qonto qsplice qstrEq qbyteV qnotB qeqB
  have hm := hmix; generalize Try.prog = P at *
  generalize @PermOn = PO at *
  cbv
  repeat refine And.intro (fun _ => rfl) ?_
  refine call_con (ρ := [(0, .z), (1, .z)]) hcall ⟨by rfl, by rfl, by rfl, by cbv; rw [ren_coin]; ((repeat' first | (refine And.intro ?_ ?_) | exact trivial | exact ⟨Nat.le_refl _⟩ | exact view_refl _ | exact fun _ => rfl | (simp only [renL3]; done) | (show SB.roA _ _ _ = SB.roA _ _ _; rfl) | exact funext fun _ => rfl) <;> rfl)⟩ ?_
  rintro v H R js2 ⟨rfl, rfl, r, hr, rfl⟩
  cbv
  (repeat refine And.intro (fun _ => rfl) ?_)
  rw [ren_coin]
  exact ⟨r, hr, rfl⟩
end
end Go.Proofs.Ytodobmkflimfkaa
/-
  Packages of coins, plainly: rows of coins and of pairs, what the first of a row hold.
-/
namespace Go.Proofs.Ytodobmkflimfkaa
/-- f goes from the numbers below N into them, and no two alike: each is met. -/
theorem inj_surj : ∀ (N : Nat) (f : Nat → Nat), (∀ i, i < N → f i < N) → (∀ i j, i < N → j < N → f i = f j → i = j) → ∀ y, y < N → ∃ i, i < N ∧ f i = y := by
  intro N
  induction N with
  | zero => intro f _ _ y hy; omega
  | succ N ih =>
    intro f h1 h2 y hy
    by_cases hN : y = f N
    · exact ⟨N, by omega, hN.symm⟩
    · have hfN := h1 N (by omega)
      have key := ih (fun i => if f i = N then f N else f i) (fun i hi => by
          have a1 := h1 i (by omega)
          have a2 := h2 i N (by omega) (by omega)
          split
          · rename_i e
            by_cases e2 : f N = N
            · exact absurd (a2 (e.trans e2.symm)) (by omega)
            · omega
          · omega) (fun i j hi hj e => by
          have a1 := h2 i j (by omega) (by omega)
          have a2 := h2 i N (by omega) (by omega)
          have a3 := h2 j N (by omega) (by omega)
          repeat' split at e
          · exact a1 (by omega)
          · exact absurd (a3 (by omega)) (by omega)
          · exact absurd (a2 (by omega)) (by omega)
          · exact a1 e)
      by_cases hyN : y = N
      · have hlt : f N < N := by omega
        obtain ⟨i, hi, e⟩ := key (f N) hlt
        split at e
        · rename_i e2; exact ⟨i, by omega, by omega⟩
        · exact absurd (h2 i N (by omega) (by omega) e) (by omega)
      · obtain ⟨i, hi, e⟩ := key y (by omega)
        split at e
        · omega
        · exact ⟨i, by omega, e⟩

/-! ### A row: coins and packages, sorted, what is alike in its old order -/
/-- Of n coins and D packages: q tells which stands where. -/
structure RowQ (n D : Nat) (k0 : Nat → Int) (q : Nat → Nat) : Prop where
  lt : ∀ i, i < n + D → q i < n + D
  inj : ∀ i j, i < n + D → j < n + D → q i = q j → i = j
  srt : ∀ i j, i < j → j < n + D → k0 (q i) ≤ k0 (q j)
  st : ∀ i j, i < j → j < n + D → k0 (q i) = k0 (q j) → q i < q j
  coins : ∀ i j, i < j → j < n → k0 i ≤ k0 j
  packs : ∀ i j, n ≤ i → i < j → j < n + D → k0 i ≤ k0 j
theorem RowQ.meet {n D : Nat} {k0 : Nat → Int} {q : Nat → Nat} (h : RowQ n D k0 q) : ∀ y, y < n + D → ∃ i, i < n + D ∧ q i = y := inj_surj (n + D) q h.lt h.inj
/-- The first m are the first c coins and the first d packages. -/
theorem RowQ.cut {n D : Nat} {k0 : Nat → Int} {q : Nat → Nat} (h : RowQ n D k0 q) : ∀ m, m ≤ n + D → ∃ c d, c + d = m ∧ c ≤ n ∧ d ≤ D ∧ (∀ y, (y < c ∨ (n ≤ y ∧ y < n + d)) ↔ ∃ i, i < m ∧ q i = y) := by
  intro m
  induction m with
  | zero => intro _; exact ⟨0, 0, rfl, by omega, by omega, fun y => ⟨fun h => by omega, fun ⟨i, hi, _⟩ => by omega⟩⟩
  | succ m ih =>
    intro hm
    obtain ⟨c, d, e1, e2, e3, e4⟩ := ih (by omega)
    have hq := h.lt m (by omega)
    have hnot : ¬ (q m < c ∨ (n ≤ q m ∧ q m < n + d)) := fun hh => by
      obtain ⟨i, hi, e⟩ := (e4 (q m)).1 hh
      have := h.inj i m (by omega) (by omega) e
      omega
    have later : ∀ y, y < n + D → ¬ (y < c ∨ (n ≤ y ∧ y < n + d)) → y ≠ q m → ∃ i, m < i ∧ i < n + D ∧ q i = y := fun y hy hno hne => by
      obtain ⟨i, hi, e⟩ := h.meet y hy
      have h1 : ¬ i < m := fun hlt => hno ((e4 y).2 ⟨i, hlt, e⟩)
      have h2 : i ≠ m := fun e' => hne (by rw [← e, e'])
      exact ⟨i, by omega, hi, e⟩
    have step : ∀ y, y < q m → k0 y ≤ k0 (q m) → y < n + D → (y < c ∨ (n ≤ y ∧ y < n + d)) := fun y hy hk hyn => by
      refine Classical.byContradiction fun hno => ?_
      obtain ⟨i, h1, h2, h3⟩ := later y hyn hno (by omega)
      have h4 := h.srt m i h1 h2
      have h5 := h.st m i h1 h2
      rw [h3] at h4 h5
      have := h5 (by omega)
      omega
    by_cases hc : q m < n
    · have hqc : q m = c := by
        refine Classical.byContradiction fun hne => ?_
        have := step c (by omega) (h.coins c (q m) (by omega) hc) (by omega)
        omega
      refine ⟨c + 1, d, by omega, by omega, e3, fun y => ⟨fun hy => ?_, fun ⟨i, hi, e⟩ => ?_⟩⟩
      · by_cases hyc : y = c
        · exact ⟨m, by omega, by omega⟩
        · obtain ⟨i, hi, e⟩ := (e4 y).1 (by omega)
          exact ⟨i, by omega, e⟩
      · by_cases him : i = m
        · subst him; omega
        · have := (e4 y).2 ⟨i, by omega, e⟩
          omega
    · have hqd : q m = n + d := by
        refine Classical.byContradiction fun hne => ?_
        have := step (n + d) (by omega) (h.packs (n + d) (q m) (by omega) (by omega) hq) (by omega)
        omega
      refine ⟨c, d + 1, by omega, e2, by omega, fun y => ⟨fun hy => ?_, fun ⟨i, hi, e⟩ => ?_⟩⟩
      · by_cases hyc : y = n + d
        · exact ⟨m, by omega, by omega⟩
        · obtain ⟨i, hi, e⟩ := (e4 y).1 (by omega)
          exact ⟨i, by omega, e⟩
      · by_cases him : i = m
        · subst him; omega
        · have := (e4 y).2 ⟨i, by omega, e⟩
          omega
/-- A sum over the first m of a row. -/
def sumN (f : Nat → Int) : Nat → Int
  | 0 => 0
  | m + 1 => sumN f m + f m
theorem sumN_ext {f g : Nat → Int} : ∀ m, (∀ i, i < m → f i = g i) → sumN f m = sumN g m
  | 0, _ => rfl
  | m + 1, h => by simp only [sumN]; rw [sumN_ext m (fun i hi => h i (by omega)), h m (by omega)]
theorem sumN_add (f g : Nat → Int) : ∀ m, sumN (fun i => f i + g i) m = sumN f m + sumN g m
  | 0 => rfl
  | m + 1 => by simp only [sumN]; rw [sumN_add f g m]; omega
/-- What the first m hold is what the first c coins and the first d packages hold. -/
theorem RowQ.sum {n D : Nat} {k0 : Nat → Int} {q : Nat → Nat} (h : RowQ n D k0 q) (f : Nat → Int) : ∀ m c d, m ≤ n + D → c + d = m → c ≤ n → d ≤ D → (∀ y, (y < c ∨ (n ≤ y ∧ y < n + d)) ↔ ∃ i, i < m ∧ q i = y) → sumN (fun i => f (q i)) m = sumN f c + sumN (fun i => f (n + i)) d := by
  intro m
  induction m with
  | zero => intro c d _ e _ _ _; obtain rfl : c = 0 := by omega
            obtain rfl : d = 0 := by omega
            rfl
  | succ m ih =>
    intro c d hm e e2 e3 e4
    obtain ⟨c', d', f1, f2, f3, f4⟩ := h.cut m (by omega)
    have hq := (e4 (q m)).2 ⟨m, by omega, rfl⟩
    have hqn : ¬ (q m < c' ∨ (n ≤ q m ∧ q m < n + d')) := fun hh => by
      obtain ⟨i, hi, e⟩ := (f4 (q m)).1 hh
      have := h.inj i m (by omega) (by omega) e
      omega
    have sub : ∀ y, (y < c' ∨ (n ≤ y ∧ y < n + d')) → (y < c ∨ (n ≤ y ∧ y < n + d)) := fun y hy => by
      obtain ⟨i, hi, e⟩ := (f4 y).1 hy
      exact (e4 y).2 ⟨i, by omega, e⟩
    have hcc : c' ≤ c := Classical.byContradiction fun hh => by have := sub c (by omega); omega
    have hdd : d' ≤ d := Classical.byContradiction fun hh => by have := sub (n + d) (by omega); omega
    simp only [sumN]
    rw [ih c' d' (by omega) f1 f2 f3 f4]
    by_cases hc : c' + 1 = c
    · obtain rfl : d' = d := by omega
      subst hc
      obtain hq' : q m = c' := by omega
      simp only [sumN]; rw [hq']; omega
    · obtain rfl : c' = c := by omega
      obtain rfl : d = d' + 1 := by omega
      obtain hq' : q m = n + d' := by omega
      simp only [sumN]; rw [hq']; omega
end Go.Proofs.Ytodobmkflimfkaa
namespace Go.Proofs.Ytodobmkflimfkaa
/-! Rows of packages, one on the other. -/
inductive RowP (n : Nat) (kc : Nat → Int) (sc : Nat → Nat) : Nat → Nat → (Nat → Int) → (Nat → List Int) → Prop
  | one {K : Nat → Int} {S : Nat → List Int} (h : ∀ i, i < n → K i = kc i ∧ S i = [(sc i : Int)]) : RowP n kc sc 1 n K S
  | next {j N N' : Nat} {K k0 K' : Nat → Int} {S S0 S' : Nat → List Int} {q : Nat → Nat} (h : RowP n kc sc j N K S) (hN : N' = n + N / 2)
      (hc : ∀ m, m < n → k0 m = kc m ∧ S0 m = [(sc m : Int)]) (hp : ∀ e, e < N / 2 → k0 (n + e) = K (2 * e) + K (2 * e + 1) ∧ S0 (n + e) = S (2 * e) ++ S (2 * e + 1))
      (h1 : ∀ i, i < N' → q i < N') (h2 : ∀ i j, i < N' → j < N' → q i = q j → i = j) (h3 : ∀ i j, i < j → j < N' → k0 (q i) ≤ k0 (q j)) (h4 : ∀ i j, i < j → j < N' → k0 (q i) = k0 (q j) → q i < q j)
      (hs : ∀ i, i < N' → K' i = k0 (q i) ∧ S' i = S0 (q i)) : RowP n kc sc (j + 1) N' K' S'
/-- Coins, rising, each more than nothing. -/
structure Coins (n : Nat) (kc : Nat → Int) (B : Int) : Prop where
  pos : ∀ i, i < n → 0 < kc i
  le : ∀ i, i < n → kc i ≤ B
  srt : ∀ i j, i < j → j < n → kc i ≤ kc j
structure RowB (n : Nat) (sc : Nat → Nat) (B : Int) (j N : Nat) (K : Nat → Int) (S : Nat → List Int) : Prop where
  n1 : n ≤ N
  n2 : N ≤ 2 * n
  pos : ∀ i, i < N → 0 < K i
  srt : ∀ i j, i < j → j < N → K i ≤ K j
  le : ∀ i, i < N → K i ≤ B * (2 ^ (j - 1) : Nat)
  len : ∀ i, i < N → (S i).length ≤ 2 ^ (j - 1) ∧ 0 < (S i).length
  sym : ∀ i, i < N → ∀ y ∈ S i, ∃ t, t < n ∧ y = (sc t : Int)
theorem le_of_srt {K : Nat → Int} {N : Nat} (h : ∀ i j, i < j → j < N → K i ≤ K j) {i j : Nat} (hij : i ≤ j) (hj : j < N) : K i ≤ K j := by
  by_cases e : i = j
  · subst e; exact Int.le_refl _
  · exact h i j (by omega) hj
theorem RowP.basic {n : Nat} {kc : Nat → Int} {sc : Nat → Nat} {B : Int} (hk : Coins n kc B) (hB : 0 ≤ B) : ∀ {j N : Nat} {K : Nat → Int} {S : Nat → List Int}, RowP n kc sc j N K S → 1 ≤ j ∧ RowB n sc B j N K S := by
  intro j N K S h
  induction h with
  | one h =>
    refine ⟨Nat.le_refl _, Nat.le_refl _, by omega, fun i hi => by rw [(h i hi).1]; exact hk.pos i hi, fun i j hij hj => by rw [(h i (by omega)).1, (h j hj).1]; exact hk.srt i j hij hj, fun i hi => ?_, fun i hi => by rw [(h i hi).2]; simp, fun i hi y hy => ?_⟩
    · rw [(h i hi).1]; simpa using hk.le i hi
    · rw [(h i hi).2] at hy; simp at hy; exact ⟨i, hi, hy⟩
  | @next j N N' K k0 K' S S0 S' q h hN hc hp h1 h2 h3 h4 hs ih =>
    obtain ⟨hj, ih⟩ := ih
    have hn1 := ih.n1
    have hn2 := ih.n2
    have hpow : (2 : Nat) ^ (j + 1 - 1) = 2 * 2 ^ (j - 1) := by
      obtain ⟨t, rfl⟩ : ∃ t, j = t + 1 := ⟨j - 1, by omega⟩
      rw [show t + 1 + 1 - 1 = t + 1 by omega, show t + 1 - 1 = t by omega, Nat.pow_succ]; omega
    have hP1 : 1 ≤ 2 ^ (j - 1) := Nat.one_le_two_pow
    have hbase : ∀ y, y < N' → 0 < k0 y ∧ k0 y ≤ B * ((2 * 2 ^ (j - 1) : Nat) : Int) ∧ ((S0 y).length ≤ 2 * 2 ^ (j - 1) ∧ 0 < (S0 y).length) ∧ ∀ z ∈ S0 y, ∃ t, t < n ∧ z = (sc t : Int) := by
      intro y hy
      by_cases hyn : y < n
      · rw [(hc y hyn).1, (hc y hyn).2]
        have a1 := hk.pos y hyn
        have a2 := hk.le y hyn
        have a3 : B * 1 ≤ B * ((2 * 2 ^ (j - 1) : Nat) : Int) := Int.mul_le_mul_of_nonneg_left (by omega) hB
        refine ⟨a1, by omega, by simp; omega, fun z hz => ?_⟩
        simp at hz; exact ⟨y, hyn, hz⟩
      · obtain ⟨e, rfl⟩ : ∃ e, y = n + e := ⟨y - n, by omega⟩
        have he : e < N / 2 := by omega
        rw [(hp e he).1, (hp e he).2]
        have a1 := ih.pos (2 * e) (by omega)
        have a2 := ih.pos (2 * e + 1) (by omega)
        have a3 := ih.le (2 * e) (by omega)
        have a4 := ih.le (2 * e + 1) (by omega)
        have a5 := ih.len (2 * e) (by omega)
        have a6 := ih.len (2 * e + 1) (by omega)
        have a7 : B * ((2 * 2 ^ (j - 1) : Nat) : Int) = B * (2 ^ (j - 1) : Nat) + B * (2 ^ (j - 1) : Nat) := by
          rw [show ((2 * 2 ^ (j - 1) : Nat) : Int) = ((2 ^ (j - 1) : Nat) : Int) + ((2 ^ (j - 1) : Nat) : Int) by omega, Int.mul_add]
        refine ⟨by omega, by omega, by rw [List.length_append]; omega, fun z hz => ?_⟩
        rcases List.mem_append.1 hz with hz | hz
        · exact ih.sym (2 * e) (by omega) z hz
        · exact ih.sym (2 * e + 1) (by omega) z hz
    refine ⟨by omega, by omega, by omega, fun i hi => ?_, fun i j hij hj => ?_, fun i hi => ?_, fun i hi => ?_, fun i hi => ?_⟩
    · rw [(hs i hi).1]; exact (hbase _ (h1 i hi)).1
    · rw [(hs i (by omega)).1, (hs j hj).1]; exact h3 i j hij hj
    · rw [(hs i hi).1, hpow]; exact (hbase _ (h1 i hi)).2.1
    · rw [(hs i hi).2, hpow]; exact (hbase _ (h1 i hi)).2.2.1
    · rw [(hs i hi).2]; exact (hbase _ (h1 i hi)).2.2.2
/-- The row of the last step, as coins and packages. -/
theorem RowQ.of {n : Nat} {kc : Nat → Int} {sc : Nat → Nat} {B : Int} (hk : Coins n kc B) {j N N' : Nat} {K k0 : Nat → Int} {S : Nat → List Int} {q : Nat → Nat} (ih : RowB n sc B j N K S) (hN : N' = n + N / 2)
    (hc : ∀ m, m < n → k0 m = kc m) (hp : ∀ e, e < N / 2 → k0 (n + e) = K (2 * e) + K (2 * e + 1))
    (h1 : ∀ i, i < N' → q i < N') (h2 : ∀ i j, i < N' → j < N' → q i = q j → i = j) (h3 : ∀ i j, i < j → j < N' → k0 (q i) ≤ k0 (q j)) (h4 : ∀ i j, i < j → j < N' → k0 (q i) = k0 (q j) → q i < q j) : RowQ n (N / 2) k0 q := by
  subst hN
  refine ⟨h1, h2, h3, h4, fun i j hij hj => by rw [hc i (by omega), hc j hj]; exact hk.srt i j hij hj, fun i j hi hij hj => ?_⟩
  obtain ⟨e, rfl⟩ : ∃ e, i = n + e := ⟨i - n, by omega⟩
  obtain ⟨e', rfl⟩ : ∃ e, j = n + e := ⟨j - n, by omega⟩
  rw [hp e (by omega), hp e' (by omega)]
  have := ih.srt (2 * e) (2 * e') (by omega) (by omega)
  have := ih.srt (2 * e + 1) (2 * e' + 1) (by omega) (by omega)
  omega
/-- The greatest coin stands among the first 2n - 2. -/
theorem RowP.great {n : Nat} {kc : Nat → Int} {sc : Nat → Nat} {B : Int} (hk : Coins n kc B) (hB : 0 ≤ B) (hn : 2 ≤ n) : ∀ {j N : Nat} {K : Nat → Int} {S : Nat → List Int}, RowP n kc sc j N K S → 2 * n - 3 < N → kc (n - 1) ≤ K (2 * n - 3) := by
  intro j N K S h
  induction h with
  | one h =>
    intro hlt
    obtain rfl : n = 2 := by omega
    rw [(h 1 (by omega)).1]; exact Int.le_refl _
  | @next j N N' K k0 K' S S0 S' q h hN hc hp h1 h2 h3 h4 hs ih =>
    intro hlt
    obtain ⟨hj, hb⟩ := h.basic hk hB
    have hQ := RowQ.of hk hb hN (fun m hm => (hc m hm).1) (fun e he => (hp e he).1) h1 h2 h3 h4
    have hn1 := hb.n1
    refine Classical.byContradiction fun hno => ?_
    obtain ⟨c, d, e1, e2, e3, e4⟩ := hQ.cut (2 * n - 2) (by omega)
    have hlow : ∀ i, i < 2 * n - 2 → k0 (q i) < kc (n - 1) := fun i hi => by
      have hx : k0 (q i) ≤ k0 (q (2 * n - 3)) := by
        by_cases e : i = 2 * n - 3
        · rw [e]; exact Int.le_refl _
        · exact h3 i (2 * n - 3) (by omega) hlt
      rw [(hs _ hlt).1] at hno
      omega
    have hcn : c ≤ n - 1 := Classical.byContradiction fun hh => by
      obtain ⟨i, hi, e⟩ := (e4 (n - 1)).1 (.inl (by omega))
      have := hlow i hi
      rw [e, (hc (n - 1) (by omega)).1] at this
      omega
    obtain ⟨i, hi, e⟩ := (e4 (n + (n - 2))).1 (.inr (by omega))
    have hl := hlow i hi
    rw [e, (hp (n - 2) (by omega)).1] at hl
    have h5 := hb.pos (2 * (n - 2)) (by omega)
    have h6 := ih (by omega)
    rw [show 2 * (n - 2) + 1 = 2 * n - 3 by omega] at hl
    omega
/-- There are enough. -/
theorem RowP.many {n : Nat} {kc : Nat → Int} {sc : Nat → Nat} {L : Nat} (hL : n ≤ 2 ^ L) : ∀ {j N : Nat} {K : Nat → Int} {S : Nat → List Int}, RowP n kc sc j N K S → ∀ t, j + t = L → 2 * n ≤ N + 2 ^ (t + 1) := by
  intro j N K S h
  induction h with
  | one h =>
    intro t ht
    obtain rfl : t + 1 = L := by omega
    omega
  | @next j N N' K k0 K' S S0 S' q h hN hc hp h1 h2 h3 h4 hs ih =>
    intro t ht
    have := ih (t + 1) (by omega)
    rw [Nat.pow_succ] at this
    have h2 : 1 ≤ 2 ^ (t + 1) := Nat.one_le_two_pow
    have h3 : 2 ^ (t + 1) = 2 * 2 ^ t := by rw [Nat.pow_succ]; omega
    omega
end Go.Proofs.Ytodobmkflimfkaa
namespace Go.Proofs.Ytodobmkflimfkaa
/-! What the first of a row hold, as how many coins of each step. -/
/-- The weights of the steps, the last one first. -/
def wC : List Nat → Nat
  | [] => 0
  | c :: r => c * 2 ^ r.length + wC r
def sumL (f : Nat → Int) : List Nat → Int
  | [] => 0
  | c :: r => sumN f c + sumL f r
def sumS (φ : Int → Int) : List Int → Int
  | [] => 0
  | y :: l => φ y + sumS φ l
theorem sumS_append (φ : Int → Int) (b : List Int) : ∀ a, sumS φ (a ++ b) = sumS φ a + sumS φ b
  | [] => by simp [sumS]
  | y :: a => by simp only [List.cons_append, sumS]; rw [sumS_append φ b a]; omega
def headN : List Nat → Nat
  | [] => 0
  | c :: _ => c
theorem sumN_pairs (f : Nat → Int) : ∀ d, sumN (fun e => f (2 * e) + f (2 * e + 1)) d = sumN f (2 * d)
  | 0 => rfl
  | d + 1 => by rw [show 2 * (d + 1) = 2 * d + 1 + 1 by omega]; simp only [sumN]; rw [sumN_pairs f d]; omega
structure CutsOf (n : Nat) (kc : Nat → Int) (sc : Nat → Nat) (K : Nat → Int) (S : Nat → List Int) (j m : Nat) (cs : List Nat) : Prop where
  len : cs.length = j
  dn : cs.Pairwise (fun a b => b ≤ a)
  le : ∀ c ∈ cs, c ≤ n
  w : wC cs = m * 2 ^ (j - 1)
  sum : ∀ φ : Int → Int, sumN (fun t => sumS φ (S t)) m = sumL (fun i => φ (sc i)) cs
  val : sumN K m = sumL kc cs
  there : ∀ i, i < headN cs → ∃ t, t < m ∧ K t = kc i
  top : 2 ≤ n → m = 2 * n - 2 → headN cs = n
theorem RowP.cuts {n : Nat} {kc : Nat → Int} {sc : Nat → Nat} {B : Int} (hk : Coins n kc B) (hB : 0 ≤ B) : ∀ {j N : Nat} {K : Nat → Int} {S : Nat → List Int}, RowP n kc sc j N K S → ∀ m, m ≤ N → ∃ cs, CutsOf n kc sc K S j m cs := by
  intro j N K S h
  induction h with
  | one h =>
    intro m hm
    refine ⟨[m], rfl, by simp, by simpa using hm, by simp [wC], fun φ => ?_, ?_, fun i hi => ⟨i, hi, (h i (by simp only [headN] at hi; omega)).1⟩, fun h2 h3 => ?_⟩
    · simp only [sumL]
      rw [sumN_ext m (fun i hi => by rw [(h i (by omega)).2])]
      simp [sumS]
    · simp only [sumL]
      rw [sumN_ext m (fun i hi => (h i (by omega)).1)]
      simp
    · simp only [headN]; omega
  | @next j N N' K k0 K' S S0 S' q h hN hc hp h1 h2 h3 h4 hs ih =>
    intro m hm
    obtain ⟨hj, hb⟩ := h.basic hk hB
    have hQ := RowQ.of hk hb hN (fun m hm => (hc m hm).1) (fun e he => (hp e he).1) h1 h2 h3 h4
    subst hN
    obtain ⟨c, d, e1, e2, e3, e4⟩ := hQ.cut m hm
    obtain ⟨cs, g⟩ := ih (2 * d) (by omega)
    have hn1 := hb.n1
    have hmeet : ∀ i, i < n → ¬ i < c → ∃ i', m ≤ i' ∧ i' < n + N / 2 ∧ q i' = i := fun i hi hno => by
      obtain ⟨i', a1, a2⟩ := hQ.meet i (by omega)
      refine ⟨i', Classical.byContradiction fun hh => ?_, a1, a2⟩
      have := (e4 i).2 ⟨i', by omega, a2⟩
      omega
    have hhead : headN cs ≤ c := Classical.byContradiction fun hh => by
      obtain ⟨t, ht, hK⟩ := g.there c (by omega)
      have hcn : c < n := by
        have hle := g.le
        cases cs with
        | nil => simp [headN] at hh
        | cons a r => have := hle a (by simp); simp only [headN] at hh; omega
      obtain ⟨i', a1, a2, a3⟩ := hmeet c hcn (by omega)
      obtain ⟨p, b1, b2⟩ := (e4 (n + t / 2)).1 (.inr (by omega))
      have hle := h3 p i' (by omega) a2
      rw [b2, a3, (hp (t / 2) (by omega)).1, (hc c hcn).1] at hle
      have p1 := hb.pos (2 * (t / 2)) (by omega)
      have p2 := hb.pos (2 * (t / 2) + 1) (by omega)
      rcases (by omega : t = 2 * (t / 2) ∨ t = 2 * (t / 2) + 1) with e | e
      · rw [e] at hK; omega
      · rw [e] at hK; omega
    have hpow : (2 : Nat) ^ (j + 1 - 1) = 2 * 2 ^ (j - 1) := by
      obtain ⟨t, rfl⟩ : ∃ t, j = t + 1 := ⟨j - 1, by omega⟩
      rw [show t + 1 + 1 - 1 = t + 1 by omega, show t + 1 - 1 = t by omega, Nat.pow_succ]; omega
    have hsum : ∀ V0 V' : Nat → Int, (∀ i, i < n + N / 2 → V' i = V0 (q i)) → sumN V' m = sumN V0 c + sumN (fun i => V0 (n + i)) d := fun V0 V' hV => by
      rw [sumN_ext m (fun i hi => hV i (by omega))]
      exact hQ.sum V0 m c d hm e1 e2 e3 e4
    refine ⟨c :: cs, by simp [g.len], ?_, ?_, ?_, fun φ => ?_, ?_, fun i hi => ?_, fun n2 hm2 => ?_⟩
    · refine List.pairwise_cons.2 ⟨fun a ha => ?_, g.dn⟩
      have hdn := g.dn
      cases cs with
      | nil => cases ha
      | cons b r =>
        simp only [headN] at hhead
        rcases List.mem_cons.1 ha with rfl | ha
        · exact hhead
        · have := (List.pairwise_cons.1 hdn).1 a ha; omega
    · intro a ha
      rcases List.mem_cons.1 ha with rfl | ha
      · exact e2
      · exact g.le a ha
    · simp only [wC]
      rw [g.w, g.len, hpow, show 2 ^ j = 2 * 2 ^ (j - 1) by rw [← hpow]; rfl, ← e1, Nat.add_mul, Nat.mul_assoc, Nat.mul_left_comm d 2]
    · simp only [sumL]
      rw [hsum (fun i => sumS φ (S0 i)) _ (fun i hi => by rw [(hs i hi).2]), ← g.sum φ, ← sumN_pairs]
      congr 1
      · exact sumN_ext c (fun i hi => by rw [(hc i (by omega)).2]; simp [sumS])
      · exact sumN_ext d (fun i hi => by rw [(hp i (by omega)).2, sumS_append])
    · simp only [sumL]
      rw [hsum k0 _ (fun i hi => (hs i hi).1), ← g.val, ← sumN_pairs]
      congr 1
      · exact sumN_ext c (fun i hi => (hc i (by omega)).1)
      · exact sumN_ext d (fun i hi => (hp i (by omega)).1)
    · simp only [headN] at hi
      obtain ⟨t, ht, e⟩ := (e4 i).1 (.inl hi)
      exact ⟨t, ht, by rw [(hs t (by omega)).1, e, (hc i (by omega)).1]⟩
    · simp only [headN]
      refine Classical.byContradiction fun hne => ?_
      obtain ⟨i', a1, a2, a3⟩ := hmeet (n - 1) (by omega) (by omega)
      obtain ⟨p, b1, b2⟩ := (e4 (n + (n - 2))).1 (.inr (by omega))
      have hle := h3 p i' (by omega) a2
      rw [b2, a3, (hp (n - 2) (by omega)).1, (hc (n - 1) (by omega)).1] at hle
      have p1 := hb.pos (2 * (n - 2)) (by omega)
      have hg := h.great hk hB n2 (by omega)
      rw [show 2 * (n - 2) + 1 = 2 * n - 3 by omega] at hle
      omega
/-! ### The lengths make a code -/
def cntL (i : Nat) (cs : List Nat) : Nat := cs.countP (fun c => decide (i < c))
def wI (i : Nat) : List Nat → Nat
  | [] => 0
  | c :: r => (if i < c then 2 ^ r.length else 0) + wI i r
theorem cntL_le (i : Nat) (cs : List Nat) : cntL i cs ≤ cs.length := List.countP_le_length
theorem wI_zero {i : Nat} : ∀ {cs : List Nat}, (∀ c ∈ cs, c ≤ i) → wI i cs = 0 ∧ cntL i cs = 0
  | [], _ => ⟨rfl, rfl⟩
  | c :: r, h => by
    have h1 := h c (by simp)
    obtain ⟨h2, h3⟩ := wI_zero (cs := r) (fun a ha => h a (by simp [ha]))
    refine ⟨by simp only [wI]; rw [if_neg (by omega), h2], ?_⟩
    unfold cntL at h3 ⊢
    rw [List.countP_cons, h3, if_neg (by simp; omega)]
theorem wI_eq {i : Nat} : ∀ {cs : List Nat}, cs.Pairwise (fun a b => b ≤ a) → wI i cs + 2 ^ (cs.length - cntL i cs) = 2 ^ cs.length
  | [], _ => rfl
  | c :: r, h => by
    obtain ⟨h1, h2⟩ := List.pairwise_cons.1 h
    by_cases hc : i < c
    · have ih := wI_eq (i := i) h2
      have hle := cntL_le i r
      have e : cntL i (c :: r) = cntL i r + 1 := by unfold cntL; rw [List.countP_cons, if_pos (by simpa using hc)]
      simp only [wI]
      rw [if_pos hc, e, List.length_cons, show r.length + 1 - (cntL i r + 1) = r.length - cntL i r by omega, Nat.pow_succ]
      omega
    · have h3 := wI_zero (i := i) (cs := c :: r) (fun a ha => by
        rcases List.mem_cons.1 ha with rfl | ha
        · omega
        · have := h1 a ha; omega)
      rw [h3.1, h3.2]; simp
def sumK (f : Nat → Nat) : Nat → Nat
  | 0 => 0
  | m + 1 => sumK f m + f m
theorem sumK_add (f g : Nat → Nat) : ∀ m, sumK (fun i => f i + g i) m = sumK f m + sumK g m
  | 0 => rfl
  | m + 1 => by simp only [sumK]; rw [sumK_add f g m]; omega
theorem sumK_ext {f g : Nat → Nat} : ∀ m, (∀ i, i < m → f i = g i) → sumK f m = sumK g m
  | 0, _ => rfl
  | m + 1, h => by simp only [sumK]; rw [sumK_ext m (fun i hi => h i (by omega)), h m (by omega)]
theorem sumK_const (x : Nat) : ∀ m, sumK (fun _ => x) m = m * x
  | 0 => by simp [sumK]
  | m + 1 => by simp only [sumK]; rw [sumK_const x m, Nat.succ_mul]
theorem sumK_ind (c x : Nat) : ∀ n, sumK (fun i => if i < c then x else 0) n = min c n * x
  | 0 => by simp [sumK]
  | n + 1 => by
    simp only [sumK]; rw [sumK_ind c x n]
    by_cases h : n < c
    · rw [if_pos h, Nat.min_eq_right (by omega), Nat.min_eq_right (by omega), Nat.succ_mul]
    · rw [if_neg h, Nat.min_eq_left (by omega), Nat.min_eq_left (by omega)]; omega
theorem wC_eq {n : Nat} : ∀ {cs : List Nat}, (∀ c ∈ cs, c ≤ n) → sumK (fun i => wI i cs) n = wC cs
  | [], _ => by simp only [wI, wC]; rw [sumK_const]; simp
  | c :: r, h => by
    have ih := wC_eq (n := n) (cs := r) (fun a ha => h a (by simp [ha]))
    simp only [wI, wC]
    rw [sumK_add (fun i => if i < c then 2 ^ r.length else 0) (fun i => wI i r) n, ih, sumK_ind, Nat.min_eq_left (h c (by simp))]
/-- The sum of the words' parts is the whole. -/
theorem CutsOf.kraft {n : Nat} {kc : Nat → Int} {sc : Nat → Nat} {K : Nat → Int} {S : Nat → List Int} {L : Nat} {cs : List Nat} (g : CutsOf n kc sc K S L (2 * n - 2) cs) (hn : 2 ≤ n) (hL : 1 ≤ L) : sumK (fun i => 2 ^ (L - cntL i cs)) n = 2 ^ L := by
  have h1 := wC_eq g.le
  have h2 : sumK (fun i => wI i cs) n + sumK (fun i => 2 ^ (L - cntL i cs)) n = n * 2 ^ L := by
    rw [← sumK_add]
    refine (sumK_ext (g := fun _ => 2 ^ L) n (fun i _ => ?_)).trans (sumK_const _ _)
    have h3 := wI_eq (i := i) g.dn
    rw [g.len] at h3; exact h3
  rw [h1, g.w] at h2
  obtain ⟨t, rfl⟩ : ∃ t, L = t + 1 := ⟨L - 1, by omega⟩
  rw [show t + 1 - 1 = t by omega] at h2
  have h3 : (2 * n - 2) * 2 ^ t + 2 ^ (t + 1) = n * 2 ^ (t + 1) := by
    rw [Nat.pow_succ, show n * (2 ^ t * 2) = (2 * n) * 2 ^ t by rw [Nat.mul_comm (2 ^ t) 2, ← Nat.mul_assoc, Nat.mul_comm n 2], show 2 ^ t * 2 = 2 * 2 ^ t by omega, ← Nat.add_mul]
    congr 1; omega
  omega
end Go.Proofs.Ytodobmkflimfkaa
namespace Go.Proofs.Ytodobmkflimfkaa
open Go Go.Sx Go.Proofs
/-! What canon.Limit has made so far, plainly. -/
@[irreducible] def updN (f : Nat → Nat) (i n : Nat) : Nat → Nat := fun m => if m = i then n else f m
theorem updN_eq (f : Nat → Nat) (i n m : Nat) : updN f i n m = if m = i then n else f m := by unfold updN; rfl
@[irreducible] def updS (f : Nat → List Int) (i : Nat) (n : List Int) : Nat → List Int := fun m => if m = i then n else f m
theorem updS_eq (f : Nat → List Int) (i : Nat) (n : List Int) (m : Nat) : updS f i n m = if m = i then n else f m := by unfold updS; rfl
/-- How many counts are more than nothing. -/
def numP (l : List Int) : Nat := l.countP (fun c => decide (0 < c))
structure CoinsTo (l : List Int) (i n : Nat) (k : Nat → Int) (s : Nat → Nat) : Prop where
  num : n = numP (l.take i)
  pos : ∀ m, m < n → 0 < k m ∧ k m = l.getD (s m) 0 ∧ s m < i
  inj : ∀ a b, a < n → b < n → s a = s b → a = b
  all : ∀ t, t < i → 0 < l.getD t 0 → ∃ m, m < n ∧ s m = t
theorem numP_take {l : List Int} {i : Nat} (hi : i < l.length) : numP (l.take (i + 1)) = numP (l.take i) + if 0 < l.getD i 0 then 1 else 0 := by
  unfold numP
  rw [List.take_add_one, List.countP_append]
  congr 1
  rw [List.getElem?_eq_getElem hi, List.getD_eq_getElem?_getD, List.getElem?_eq_getElem hi]
  simp only [Option.toList, Option.getD_some]
  by_cases h : 0 < l[i]
  · rw [if_pos h]; simp [h]
  · rw [if_neg h]; simp [h]
theorem CoinsTo.nil (l : List Int) (k : Nat → Int) (s : Nat → Nat) : CoinsTo l 0 0 k s := ⟨by simp [numP], fun m hm => by omega, fun a b ha => by omega, fun t ht => by omega⟩
theorem CoinsTo.no {l : List Int} {i n : Nat} {k : Nat → Int} {s : Nat → Nat} (h : CoinsTo l i n k s) (hi : i < l.length) (hz : ¬ 0 < l.getD i 0) : CoinsTo l (i + 1) n k s := by
  refine ⟨by rw [numP_take hi, if_neg hz, h.num]; rfl, fun m hm => ?_, h.inj, fun t ht hp => ?_⟩
  · obtain ⟨h1, h2, h3⟩ := h.pos m hm; exact ⟨h1, h2, by omega⟩
  · by_cases e : t = i
    · subst e; exact absurd hp hz
    · exact h.all t (by omega) hp
theorem CoinsTo.yes {l : List Int} {i n : Nat} {k : Nat → Int} {s : Nat → Nat} (h : CoinsTo l i n k s) (hi : i < l.length) (hz : 0 < l.getD i 0) : CoinsTo l (i + 1) (n + 1) (updI k n (l.getD i 0)) (updN s n i) := by
  refine ⟨by rw [numP_take hi, if_pos hz, h.num], fun m hm => ?_, fun a b ha hb hab => ?_, fun t ht hp => ?_⟩
  · rw [updI_eq, updN_eq]
    by_cases e : m = n
    · subst e; rw [if_pos rfl, if_pos rfl]; exact ⟨hz, rfl, by omega⟩
    · rw [if_neg e, if_neg e]; obtain ⟨h1, h2, h3⟩ := h.pos m (by omega); exact ⟨h1, h2, by omega⟩
  · rw [updN_eq, updN_eq] at hab
    by_cases e1 : a = n <;> by_cases e2 : b = n
    · omega
    · rw [if_pos e1, if_neg e2] at hab; have := (h.pos b (by omega)).2.2; omega
    · rw [if_neg e1, if_pos e2] at hab; have := (h.pos a (by omega)).2.2; omega
    · rw [if_neg e1, if_neg e2] at hab; exact h.inj a b (by omega) (by omega) hab
  · by_cases e : t = i
    · exact ⟨n, by omega, by rw [updN_eq, if_pos rfl, e]⟩
    · obtain ⟨m, h1, h2⟩ := h.all t (by omega) hp
      exact ⟨m, by omega, by rw [updN_eq, if_neg (by omega), h2]⟩
/-- The symbols lie there. -/
@[irreducible] def ColdS (c : Nat → Option CB) (n : Nat) (x ln : Nat → Nat) (S : Nat → List Int) : Prop := ∀ m, m < n → c (x m) = some (.ints .i64 (S m)) ∧ ln m = (S m).length
theorem ColdS.out {c : Nat → Option CB} {n : Nat} {x ln : Nat → Nat} {S : Nat → List Int} (h : ColdS c n x ln S) : ∀ m, m < n → c (x m) = some (.ints .i64 (S m)) ∧ ln m = (S m).length := by unfold ColdS at h; exact h
theorem ColdS.of {c : Nat → Option CB} {n : Nat} {x ln : Nat → Nat} {S : Nat → List Int} (h : ∀ m, m < n → c (x m) = some (.ints .i64 (S m)) ∧ ln m = (S m).length) : ColdS c n x ln S := by unfold ColdS; exact h
theorem ColdS.nil (c : Nat → Option CB) (x ln : Nat → Nat) (S : Nat → List Int) : ColdS c 0 x ln S := .of (fun m hm => by omega)
/-- A block more, elsewhere. -/
theorem ColdS.upd {c : Nat → Option CB} {n : Nat} {x ln : Nat → Nat} {S : Nat → List Int} (h : ColdS c n x ln S) {id : Nat} {B : CB} (hid : c id = none) : ColdS (updC c id B) n x ln S :=
  .of (fun m hm => ⟨updC_old hid (h.out m hm).1, (h.out m hm).2⟩)
theorem ColdS.more {c : Nat → Option CB} {n : Nat} {x ln : Nat → Nat} {S : Nat → List Int} (h : ColdS c n x ln S) {id : Nat} (hid : c id = none) (b : List Int) (len : Nat) (hl : len = b.length) :
    ColdS (updC c id (.ints .i64 b)) (n + 1) (updN x n id) (updN ln n len) (updS S n b) := by
  refine .of (fun m hm => ?_)
  rw [updN_eq, updN_eq, updS_eq]
  by_cases e : m = n
  · rw [if_pos e, if_pos e, if_pos e]; exact ⟨updC_new _ _ _, hl⟩
  · rw [if_neg e, if_neg e, if_neg e]; exact ⟨updC_old hid (h.out m (by omega)).1, (h.out m (by omega)).2⟩
theorem ColdS.perm {c : Nat → Option CB} {n n' : Nat} {x ln : Nat → Nat} {S : Nat → List Int} (h : ColdS c n x ln S) (q : Nat → Nat) (hq : ∀ m, m < n' → q m < n) : ColdS c n' (fun m => x (q m)) (fun m => ln (q m)) (fun m => S (q m)) :=
  .of (fun m hm => h.out (q m) (hq m hm))
theorem coin_ext (k : Nat → Int) (x ln cp : Nat → Nat) (n : Nat) (v : Int) (b len cap id : Nat) (σ : Names) (hσ : σ b = some (id, 0)) (m : Nat) (hm : m < n + 1) :
    denL σ [.int .u64 (updI k n v m), .val (.slice (some ⟨updN x n id m, 0, none⟩) (updN ln n len m) (updN cp n cap m))] =
    denL σ (extF (fun m => [.int .u64 (k m), .val (.slice (some ⟨x m, 0, none⟩) (ln m) (cp m))]) n [.int .u64 v, .slice b .z 1 len cap] m) := by
  rw [extF_eq, updI_eq, updN_eq, updN_eq, updN_eq]
  by_cases e : m = n
  · rw [if_pos e, if_pos e, if_pos e, if_pos e, if_pos e]; simp [denL, den, hσ, ixN]
  · rw [if_neg e, if_neg e, if_neg e, if_neg e, if_neg e]
/-- The coins, sorted. -/
theorem coins_sorted {l : List Int} {n : Nat} {k : Nat → Int} {s q : Nat → Nat} (h : CoinsTo l l.length n k s) (hl : ∀ i, i < l.length → l.getD i 0 < 4294967296) (hp : PermOn (fun m => m) q 0 n) (hs : Srt k q 0 n) :
    Coins n (fun m => k (q m)) 4294967295 ∧ (∀ i, i < n → k (q i) = l.getD (s (q i)) 0 ∧ s (q i) < l.length) ∧ (∀ a b, a < n → b < n → s (q a) = s (q b) → a = b) ∧ (∀ t, t < l.length → 0 < l.getD t 0 → ∃ m, m < n ∧ s (q m) = t) ∧ ∀ m, m < n → q m < n := by
  have hlt : ∀ m, m < n → q m < n := fun m hm => by
    obtain ⟨m', _, h2, e⟩ := hp.sub m (Nat.zero_le _) hm
    rw [e]; exact h2
  have hinj := hp.inj (fun i j h => h)
  refine ⟨⟨fun i hi => (h.pos _ (hlt i hi)).1, fun i hi => ?_, fun i j hij hj => hs i j (Nat.zero_le _) hij hj⟩, fun i hi => ⟨(h.pos _ (hlt i hi)).2.1, (h.pos _ (hlt i hi)).2.2⟩, fun a b ha hb e => hinj a b (h.inj _ _ (hlt a ha) (hlt b hb) e), fun t ht hpo => ?_, hlt⟩
  · obtain ⟨_, e, hlt2⟩ := h.pos _ (hlt i hi)
    have := hl _ hlt2
    show k (q i) ≤ 4294967295
    rw [e]; omega
  · obtain ⟨m, h1, h2⟩ := h.all t ht hpo
    obtain ⟨m', h3, h4⟩ := inj_surj n q hlt (fun i j _ _ e => hinj i j e) m h1
    exact ⟨m', h3, by rw [h4, h2]⟩
/-- A row, as values. -/
def rowV (K : Nat → Int) (x ln cp : Nat → Nat) : Nat → List Value := fun m => [.int .u64 (K m), .slice (some ⟨x m, 0, none⟩) (ln m) (cp m)]
theorem rowV_den (K : Nat → Int) (x ln cp : Nat → Nat) (σ : Names) (m : Nat) : denL σ [.int .u64 (K m), .val (.slice (some ⟨x m, 0, none⟩) (ln m) (cp m))] = rowV K x ln cp m := by simp [denL, den, rowV]
/-- What is known ahead of a round: a row, and where it lies. -/
structure RowIn (n : Nat) (kc : Nat → Int) (sc xc lc : Nat → Nat) (Sc : Nat → List Int) (j N idr capr : Nat) (K : Nat → Int) (x ln cp : Nat → Nat) (S : Nat → List Int) (c : Nat → Option CB) : Prop where
  row : RowP n kc sc j N K S
  cap : N ≤ capr
  at' : c idr = some (.rows 2 N (rowV K x ln cp))
  syms : ColdS c N x ln S
  coins : ColdS c n xc lc Sc
/-- What is known of the next row, as far as it is made: e packages. -/
structure NextIn (n : Nat) (kc : Nat → Int) (xc lc : Nat → Nat) (Sc : Nat → List Int) (N e : Nat) (K : Nat → Int) (S : Nat → List Int) (x ln : Nat → Nat) (k0 : Nat → Int) (x0 l0 : Nat → Nat) (S0 : Nat → List Int) (c : Nat → Option CB) : Prop where
  le : e ≤ N / 2
  kc : ∀ m, m < n → k0 m = kc m ∧ S0 m = Sc m
  kp : ∀ d, d < e → k0 (n + d) = K (2 * d) + K (2 * d + 1) ∧ S0 (n + d) = S (2 * d) ++ S (2 * d + 1)
  new : ColdS c (n + e) x0 l0 S0
  syms : ColdS c N x ln S
  coins : ColdS c n xc lc Sc
theorem NextIn.step {n : Nat} {kc : Nat → Int} {xc lc : Nat → Nat} {Sc : Nat → List Int} {N e : Nat} {K : Nat → Int} {S : Nat → List Int} {x ln : Nat → Nat} {k0 : Nat → Int} {x0 l0 : Nat → Nat} {S0 : Nat → List Int} {c : Nat → Option CB}
    (h : NextIn n kc xc lc Sc N e K S x ln k0 x0 l0 S0 c) (he : e + 1 ≤ N / 2) {id : Nat} (hid : c id = none) (len : Nat) (hlen : len = (S (2 * e) ++ S (2 * e + 1)).length) :
    NextIn n kc xc lc Sc N (e + 1) K S x ln (updI k0 (n + e) (K (2 * e) + K (2 * e + 1))) (updN x0 (n + e) id) (updN l0 (n + e) len) (updS S0 (n + e) (S (2 * e) ++ S (2 * e + 1))) (updC c id (.ints .i64 (S (2 * e) ++ S (2 * e + 1)))) := by
  refine ⟨he, fun m hm => ?_, fun d hd => ?_, h.new.more hid _ len hlen, h.syms.upd hid, h.coins.upd hid⟩
  · rw [updI_eq, updS_eq, if_neg (by omega), if_neg (by omega)]; exact h.kc m hm
  · rw [updI_eq, updS_eq]
    by_cases e' : d = e
    · subst e'; rw [if_pos rfl, if_pos rfl]; exact ⟨rfl, rfl⟩
    · rw [if_neg (by omega), if_neg (by omega)]; exact h.kp d (by omega)
/-- The next row, sorted. -/
theorem NextIn.done {n : Nat} {kc : Nat → Int} {sc xc lc : Nat → Nat} {Sc : Nat → List Int} {N j : Nat} {K : Nat → Int} {S : Nat → List Int} {x ln : Nat → Nat} {k0 : Nat → Int} {x0 l0 : Nat → Nat} {S0 : Nat → List Int} {c : Nat → Option CB} {q : Nat → Nat}
    (h : NextIn n kc xc lc Sc N (N / 2) K S x ln k0 x0 l0 S0 c) (hr : RowP n kc sc j N K S) (hSc : ∀ m, m < n → Sc m = [(sc m : Int)]) (hp : PermOn (fun m => m) q 0 (n + N / 2)) (hst : St k0 q) (hs : Srt k0 q 0 (n + N / 2)) :
    RowP n kc sc (j + 1) (n + N / 2) (fun m => k0 (q m)) (fun m => S0 (q m)) ∧ ColdS c (n + N / 2) (fun m => x0 (q m)) (fun m => l0 (q m)) (fun m => S0 (q m)) := by
  have hlt : ∀ m, m < n + N / 2 → q m < n + N / 2 := fun m hm => by
    obtain ⟨m', _, h2, e⟩ := hp.sub m (Nat.zero_le _) hm
    rw [e]; exact h2
  have hinj := hp.inj (fun i j h => h)
  unfold Srt at hs
  unfold St at hst
  exact ⟨.next hr rfl (fun m hm => ⟨(h.kc m hm).1, by rw [(h.kc m hm).2]; exact hSc m hm⟩) (fun e he => h.kp e he) hlt (fun i j _ _ e => hinj i j e) (fun i j hij hj => hs i j (Nat.zero_le _) hij hj) (fun i j hij hj e => hst i j hij e) (fun i hi => ⟨rfl, rfl⟩), h.new.perm q hlt⟩
def indS (s : Int) (y : Int) : Int := if y = s then 1 else 0
/-- The lengths, behind t whole items and r symbols of the next one. -/
@[irreducible] def OutP (S : Nat → List Int) (i t r : Nat) (o : List Int) : Prop := o.length = i ∧ ∀ s : Nat, s < i → o.getD s 0 = (sumN (fun t => sumS (indS s) (S t)) t + sumS (indS s) ((S t).take r)) % 256
theorem OutP.out {S : Nat → List Int} {i t r : Nat} {o : List Int} (h : OutP S i t r o) : o.length = i ∧ ∀ s : Nat, s < i → o.getD s 0 = (sumN (fun t => sumS (indS s) (S t)) t + sumS (indS s) ((S t).take r)) % 256 := by unfold OutP at h; exact h
theorem OutP.start (S : Nat → List Int) (i : Nat) : OutP S i 0 0 (List.replicate i 0) := by
  unfold OutP
  refine ⟨by simp, fun s hs => ?_⟩
  rw [List.getD_eq_getElem?_getD, List.getElem?_replicate, if_pos hs]
  simp [sumN, sumS]
theorem OutP.next {S : Nat → List Int} {i t r : Nat} {o : List Int} (h : OutP S i t r o) (hr : r = (S t).length) : OutP S i (t + 1) 0 o := by
  obtain ⟨h1, h2⟩ := h.out
  unfold OutP
  refine ⟨h1, fun s hs => ?_⟩
  rw [h2 s hs, hr, List.take_length]
  simp [sumN, sumS]
theorem OutP.step {S : Nat → List Int} {i t r : Nat} {o : List Int} (h : OutP S i t r o) (hr : r < (S t).length) {y : Nat} (hy : (S t).getD r 0 = (y : Int)) (hyi : y < i) : OutP S i t (r + 1) (o.set y ((o.getD y 0 + 1) % 256)) := by
  obtain ⟨h1, h2⟩ := h.out
  unfold OutP
  refine ⟨by simpa using h1, fun s hs => ?_⟩
  have e : sumS (indS s) ((S t).take (r + 1)) = sumS (indS s) ((S t).take r) + indS s y := by
    rw [List.take_add_one, sumS_append]
    congr 1
    rw [List.getD_eq_getElem?_getD, List.getElem?_eq_getElem hr] at hy
    rw [List.getElem?_eq_getElem hr]
    simp only [Option.getD_some] at hy
    simp [sumS, hy]
  rw [e, List.getD_eq_getElem?_getD, List.getElem?_set]
  have h3 := h2 s hs
  rw [List.getD_eq_getElem?_getD] at h3
  by_cases es : y = s
  · subst es
    rw [if_pos rfl, if_pos (by omega), List.getD_eq_getElem?_getD, h3]
    simp only [Option.getD_some, indS, if_true]
    omega
  · rw [if_neg es, h3]
    unfold indS
    rw [if_neg (by omega)]
    omega
theorem sorted_id (k : Nat → Int) : St k (fun m => m) := by unfold St; exact fun i j h _ => h
end Go.Proofs.Ytodobmkflimfkaa
namespace Go.Proofs.Ytodobmkflimfkaa
open Go Go.Sx Go.Proofs
/-! canon.Limit (15). -/
section
attribute [local irreducible] St Srt rowV
def Abl (l : List Int) (most : Int) : Prop := l.length ≤ 1024 ∧ 1 ≤ most ∧ most ≤ 15 ∧ 2 ≤ numP l ∧ numP l ≤ 2 ^ most.toNat
/-- What Limit answers, by rows of packages. -/
def LimP (l : List Int) (most : Int) (o : List Int) : Prop := ∃ (n N : Nat) (kc : Nat → Int) (sc : Nat → Nat) (K : Nat → Int) (S : Nat → List Int),
  n = numP l ∧ Coins n kc 4294967295 ∧ (∀ i, i < n → kc i = l.getD (sc i) 0 ∧ sc i < l.length) ∧ (∀ a b, a < n → b < n → sc a = sc b → a = b) ∧ (∀ t, t < l.length → 0 < l.getD t 0 → ∃ m, m < n ∧ sc m = t) ∧
  RowP n kc sc most.toNat N K S ∧ 2 * n - 2 ≤ N ∧ o.length = l.length ∧ ∀ s : Nat, s < l.length → o.getD s 0 = (sumN (fun t => sumS (indS s) (S t)) (2 * n - 2)) % 256
set_option maxRecDepth 100000
set_option maxHeartbeats 40000000
theorem limit_con (PT : SV → List SB → List Nat → Prop) (l : List Int) (most : Int) (cap : Nat) (hl : ∀ c ∈ l, 0 ≤ c ∧ c < 4294967296) (hlen : l.length ≤ 1048576) (hmo : -9223372036854775808 ≤ most ∧ most ≤ 9223372036854775807)
    (hB : ¬ Abl l most → PT (.tup [.val (.slice none 0 0), .int .i64 2]) [.ro .u32 l] []) (hG : Abl l most → ∀ o, LimP l most o → PT (.tup [.slice 1 .z 1 l.length l.length, .int .i64 0]) [.ro .u32 l, .ints 5 .u8 o] []) :
    Con Try.prog 15 [.slice 0 .z 1 l.length cap, .int .i64 most] [.ro .u32 l] PT := by
  have hris := fun (k : Nat → Int) (x ln cp : Nat → Nat) (N C cap : Nat) (hN : N ≤ 100000) => rising_con k x ln cp (fun m => m) N C cap hN (sorted_id k)
  refine con_gen (con_picks (con_drop (con_walk hmix fn15 ?_)))
  intro vb vc vw vtoN vofN vaddN vsubN vmaxI vminI vcutN vgd vst vln vrep vsub vonto vsplice vstrEq vbyteV vnotB veqB hw qb qc qw qtoN qofN qaddN qsubN qmaxI qminI qcutN qgd qst qln qrep qsub qonto qsplice qstrEq qbyteV qnotB qeqB
  have hm := hmix; generalize Try.prog = P at *
  have hadd : ∀ (x y : Int) (i j : Nat), x = i → y = j → i + j < 100000000 → vb .add .i64 x y = ((i + j : Nat) : Int) := fun x y i j h1 h2 h => by rw [qb, add_i64 (by omega) (by omega)]; omega
  have hadd0 : ∀ i, vaddN 0 i = i := fun i => by simp only [qaddN, Nat.zero_add]
  have hlss : ∀ (x y : Int) (i j : Nat), x = i → y = j → vc .lss x y = decide (i < j) := fun x y i j h1 h2 => by rw [qc]; exact lss_nat h1 h2
  generalize hL : l.length = L at *
  obtain ⟨LI, hLI⟩ : ∃ LI, LI = (L : Int) := ⟨_, rfl⟩
  have hlen' : Le L 1048576 := ⟨hlen⟩
  have hgd : ∀ i, i < L → 0 ≤ l.getD i 0 ∧ l.getD i 0 < 4294967296 := fun i hi => hl _ (by rw [List.getD_eq_getElem?_getD, List.getElem?_eq_getElem (by rw [hL]; exact hi)]; exact List.getElem_mem _)
  have hvgd : ∀ i, vgd l i = l.getD i 0 := fun i => by rw [qgd]
  have hvln : vln l = L := by rw [qln]; exact hL
  have hof : vofN L = LI := by rw [qofN, hLI]
  have hto : ∀ (x : Int) (i : Nat), x = i → vtoN x = i := fun x i h => by rw [qtoN, h]; rfl
  have hcon : ∀ v : Int, 0 ≤ v → v < 4294967296 → vw .u64 v = v := fun v h1 h2 => by rw [qw]; exact wrap_u64 h1 (by omega)
  have hgt : ∀ v : Int, vc .gtr v 0 = decide (0 < v) := fun v => by rw [qc]; rfl
  have htake := @List.take_length _ l
  clear hl hlen
  have hinv0 : (0 : Int) = ((0 : Nat) : Int) ∧ 0 ≤ L ∧ 0 ≤ 0 ∧ CoinsTo l 0 0 (fun _ => 0) (fun _ => 0) ∧ ColdS (fun _ => none) 0 (fun _ => 0) (fun _ => 0) (fun _ => []) ∧ ∀ m, m < 0 → (fun _ => ([] : List Int)) m = [((fun _ => 0 : Nat → Nat) m : Int)] := ⟨rfl, Nat.zero_le _, Nat.le_refl _, CoinsTo.nil _ _ _, ColdS.nil _ _ _ _, fun m hm => absurd hm (Nat.not_lt_zero m)⟩
  cbv
  rw [hof]
  refine WX.cv (Cv.nilTA 6 2 109 (fun m => [.int .u64 ((fun _ => 0 : Nat → Int) m), .val (.slice (some ⟨(fun _ => 0 : Nat → Nat) m, 0, none⟩) ((fun _ => 0 : Nat → Nat) m) ((fun _ => 0 : Nat → Nat) m))]) (by rfl) (by cbv) (Cv.here ?_))
  refine loop_famC (α := Int × Nat × Nat × Nat × (Nat → Int) × (Nat → Nat) × (Nat → Nat) × (Nat → Nat) × (Nat → Nat) × (Nat → List Int) × (Nat → Option CB)) ([7, 8] ++ [21, 22, 23, 24, 25, 26, 27, 28, 29, 30, 31, 32, 33, 34, 35]) [1]
    (fun (iI, i, n, ca, k, s, x, ln, cp, S, c) => [(20, .int .i64 iI), (6, .slice 1 .z 2 n ca)])
    (fun (iI, i, n, ca, k, s, x, ln, cp, S, c) => [(1, .bufA 109 2 n (fun m => [.int .u64 (k m), .val (.slice (some ⟨x m, 0, none⟩) (ln m) (cp m))]) ca)])
    (fun (iI, i, n, ca, k, s, x, ln, cp, S, c) => c)
    (fun (iI, i, n, ca, k, s, x, ln, cp, S, c) => iI = i ∧ i ≤ L ∧ n ≤ ca ∧ CoinsTo l i n k s ∧ ColdS c n x ln S ∧ ∀ m, m < n → S m = [(s m : Int)])
    (fun (iI, i, n, ca, k, s, x, ln, cp, S, c) => L - i) hw hm ?_ ?_
  · refine Cv.genAt [20] [] (Cv.fold ([7, 8] ++ [21, 22, 23, 24, 25, 26, 27, 28, 29, 30, 31, 32, 33, 34, 35]) 2 [1] (by exact Nat.le_refl _) (by exact Nat.le_of_ble_eq_true rfl) (by rfl) (by cbv) ?_)
    intro js
    exact ⟨(_, 0, 0, 0, _, _, _, _, _, _, _), hinv0, js, rfl⟩
  rintro ⟨iI, i, n, ca, k, s, x, ln, cp, S, c⟩ js ⟨g1, g2, g3, g4, g5, g6⟩
  clear hinv0
  by_cases hiL : i < L
  · have hc1 : vc .lss iI LI = true := by rw [hlss iI LI i L g1 hLI]; exact decide_eq_true hiL
    have hti := hto iI i g1
    have hr : InR iI L := ⟨by omega⟩
    have hnx : ∀ u : Int, u = vb .add .i64 iI 1 → u = ((i + 1 : Nat) : Int) := fun u hu => hu.trans (hadd iI 1 i 1 g1 rfl (by have := hlen'.out; omega))
    obtain ⟨v, hv⟩ : ∃ v, v = l.getD i 0 := ⟨_, rfl⟩
    have hvv := hgd i hiL
    rw [← hv] at hvv
    have hvi : vgd l i = v := by rw [hvgd, hv]
    have hcv := hcon v hvv.1 hvv.2
    have hmu : L - (i + 1) < L - i := by omega
    have hi1 : i + 1 ≤ L := hiL
    have hnL : n ≤ i := by rw [g4.num]; exact Nat.le_trans List.countP_le_length (by rw [List.length_take]; omega)
    obtain ⟨n1, hn1⟩ : ∃ n1, n1 = n + 1 := ⟨_, rfl⟩
    have had1 : vaddN n 1 = n1 := by rw [qaddN, hn1]
    have hfit : Fits n1 32 := ⟨by have := hlen'.out; omega⟩
    obtain ⟨i1, hi1e⟩ : ∃ i1, i1 = i + 1 := ⟨_, rfl⟩
    by_cases hp : 0 < v
    · have hgv : vc .gtr v 0 = true := by rw [hgt]; exact decide_eq_true hp
      have hco := g4.yes (by rw [hL]; exact hiL) (by rw [← hv]; exact hp)
      rw [← hv] at hco
      have hfin : ∀ (u : Int) (id ca2 : Nat), u = vb .add .i64 iI 1 → c id = none → n1 ≤ ca2 → (u = i1 ∧ i1 ≤ L ∧ n1 ≤ ca2 ∧ CoinsTo l i1 n1 (updI k n v) (updN s n i) ∧ ColdS (updC c id (.ints .i64 [iI])) n1 (updN x n id) (updN ln n 1) (updS S n [iI]) ∧ ∀ m, m < n1 → updS S n [iI] m = [(updN s n i m : Int)]) ∧ L - i1 < L - i := fun u id ca2 hu hid hca => by
        rw [hi1e, hn1]
        rw [hn1] at hca
        refine ⟨⟨hnx u hu, hi1, hca, hco, g5.more hid [iI] 1 rfl, fun m hm => ?_⟩, hmu⟩
        rw [updS_eq, updN_eq]
        by_cases e : m = n
        · rw [if_pos e, if_pos e, g1]
        · rw [if_neg e, if_neg e]; exact g6 m (by omega)
      clear hnx hco g4 g5 g6 hgd hvgd hcon hgt hlss hadd hto hmu hi1 hp hvv hv
      cbv
      rw [hc1]
      cbv
      rw [hti, hadd0, hvln, hvi, hgv]
      refine ⟨hr, ⟨hiL⟩, ⟨hiL⟩, ?_⟩
      cbv
      rw [hcv]
      refine ⟨fun _ => rfl, fun _ => rfl, ⟨Nat.le_refl _⟩, ⟨Nat.le_refl _⟩, ?_, fun _ => rfl, fun _ => rfl, fun _ => rfl, ?_⟩
      · rw [had1]; exact hfit
      intro cc jv hcc
      have hcc' : n1 ≤ cc := by rw [← had1]; exact hcc.out
      cbv
      rw [had1]
      obtain ⟨u, hu⟩ : ∃ u, u = vb .add .i64 iI 1 := ⟨_, rfl⟩
      rw [← hu]
      refine Cv.frz2 (b := 2) (j := 1) (fun id m => [.int .u64 (updI k n v m), .val (.slice (some ⟨updN x n id m, 0, none⟩) (updN ln n 1 m) (updN cp n 1 m))]) (by rfl) rfl (by simp) rfl (fun σ w h => frz_ints h) (by rfl) (by rfl)
        (fun σ id hσ m hm => coin_ext k x ln cp n v 2 1 1 id σ hσ m (by rw [← hn1]; exact hm)) (fun id hid => ?_)
      have hf := hfin u id cc hu hid hcc'
      refine Cv.fold ([7, 8] ++ [21, 22, 23, 24, 25, 26, 27, 28, 29, 30, 31, 32, 33, 34, 35]) 2 [1] (by exact Nat.le_refl _) (by exact Nat.le_of_ble_eq_true rfl) (by rfl) (by cbv) ?_
      intro js2
      exact ⟨(_, i1, n1, cc, _, _, _, _, updN cp n 1, _, _), hf, js2, rfl⟩
    · have hgv : vc .gtr v 0 = false := by rw [hgt]; exact decide_eq_false hp
      have hco := g4.no (by rw [hL]; exact hiL) (by rw [← hv]; exact hp)
      have hfin : ∀ (u : Int), u = vb .add .i64 iI 1 → (u = i1 ∧ i1 ≤ L ∧ n ≤ ca ∧ CoinsTo l i1 n k s ∧ ColdS c n x ln S ∧ ∀ m, m < n → S m = [(s m : Int)]) ∧ L - i1 < L - i := fun u hu => by
        rw [hi1e]
        exact ⟨⟨hnx u hu, hi1, g3, hco, g5, g6⟩, hmu⟩
      clear hnx hco g4 g5 g6 hgd hvgd hcon hgt hlss hadd hto hmu hi1 hp hvv hv hcv
      cbv
      rw [hc1]
      cbv
      rw [hti, hadd0, hvln, hvi, hgv]
      refine ⟨hr, ⟨hiL⟩, ⟨hiL⟩, ?_⟩
      cbv
      obtain ⟨u, hu⟩ : ∃ u, u = vb .add .i64 iI 1 := ⟨_, rfl⟩
      rw [← hu]
      have hf := hfin u hu
      refine Cv.fold ([7, 8] ++ [21, 22, 23, 24, 25, 26, 27, 28, 29, 30, 31, 32, 33, 34, 35]) 2 [1] (by exact Nat.le_refl _) (by exact Nat.le_of_ble_eq_true rfl) (by rfl) (by cbv) ?_
      intro js2
      exact ⟨(_, i1, n, ca, _, _, _, _, _, _, _), hf, js2, rfl⟩
  · have hc1 : vc .lss iI LI = false := by rw [hlss iI LI i L g1 hLI]; exact decide_eq_false hiL
    have hiL2 : i = L := Nat.le_antisymm g2 (Nat.le_of_not_lt hiL)
    subst hiL2
    have hnum := g4.num
    rw [← hL, htake] at hnum
    obtain ⟨nI, hnI⟩ : ∃ nI, nI = (n : Int) := ⟨_, rfl⟩
    have hofn : vofN n = nI := by rw [qofN, hnI]
    have hA1 : vc .gtr LI 1024 = decide (1024 < i) := by rw [qc, hLI]; exact gtr_nat (j := 1024) rfl rfl
    have hA2 : vc .lss most 1 = decide (most < 1) := by rw [qc]; rfl
    have hA3 : vc .gtr most 15 = decide (15 < most) := by rw [qc]; rfl
    have hA4 : vc .lss nI 2 = decide (n < 2) := hlss nI 2 n 2 hnI rfl
    have hA5 : 1 ≤ most → most ≤ 15 → NonNeg (vw .u64 most) ∧ vc .gtr nI (vb .shl .i64 1 (vw .u64 most)) = decide (2 ^ most.toNat < n) := fun h1 h2 => by
      have e1 : vw .u64 most = most := by rw [qw]; exact wrap_u64 (by omega) (by omega)
      have e2 : vb .shl .i64 1 most = ((2 ^ most.toNat : Nat) : Int) := by
        rw [qb]
        have : most = 1 ∨ most = 2 ∨ most = 3 ∨ most = 4 ∨ most = 5 ∨ most = 6 ∨ most = 7 ∨ most = 8 ∨ most = 9 ∨ most = 10 ∨ most = 11 ∨ most = 12 ∨ most = 13 ∨ most = 14 ∨ most = 15 := by omega
        rcases this with h | h | h | h | h | h | h | h | h | h | h | h | h | h | h <;> subst h <;> decide
      rw [e1]
      exact ⟨⟨by omega⟩, by rw [e2, qc]; exact gtr_nat hnI rfl⟩
    have hAbl : Abl l most ↔ ¬ 1024 < i ∧ ¬ most < 1 ∧ ¬ 15 < most ∧ ¬ n < 2 ∧ ¬ 2 ^ most.toNat < n := by
      unfold Abl; rw [hL, ← hnum]; omega
    have hbad : ¬ (¬ 1024 < i ∧ ¬ most < 1 ∧ ¬ 15 < most ∧ ¬ n < 2 ∧ ¬ 2 ^ most.toNat < n) → PT (.tup [.val (.slice none 0 0), .int .i64 2]) [.ro .u32 l] [] := fun h => hB (fun h' => h (hAbl.1 h'))
    have hgood : (¬ 1024 < i ∧ ¬ most < 1 ∧ ¬ 15 < most ∧ ¬ n < 2 ∧ ¬ 2 ^ most.toNat < n) → ∀ o, LimP l most o → PT (.tup [.slice 1 .z 1 i i, .int .i64 0]) [.ro .u32 l, .ints 5 .u8 o] [] := fun h => hG (hAbl.2 h)
    clear hB hG hAbl hcon hgt hiL g2
    generalize hbk : (¬ 1024 < i ∧ ¬ most < 1 ∧ ¬ 15 < most ∧ ¬ n < 2 ∧ ¬ 2 ^ most.toNat < n) = BK at *
    by_cases c1 : 1024 < i
    · have hb := hbad (by rw [← hbk]; exact fun h => h.1 c1)
      clear hbad hgood g4 g5 g6 hnum hlss hadd
      cbv
      rw [hc1]
      cbv
      rw [hof, hA1, decide_eq_true c1]
      cbv
      refine ⟨[0], .tup [.val (.slice none 0 0), .lit .i64 2], [.ro .u32 l], rfl, rfl, rfl, rfl, ?_, hb⟩
      cbv
    by_cases c2 : most < 1
    · have hb := hbad (by rw [← hbk]; exact fun h => h.2.1 c2)
      clear hbad hgood g4 g5 g6 hnum hlss hadd
      cbv
      rw [hc1]
      cbv
      rw [hof, hA1, decide_eq_false c1]
      cbv
      rw [hA2, decide_eq_true c2]
      cbv
      refine ⟨[0], .tup [.val (.slice none 0 0), .lit .i64 2], [.ro .u32 l], rfl, rfl, rfl, rfl, ?_, hb⟩
      cbv
    by_cases c3 : 15 < most
    · have hb := hbad (by rw [← hbk]; exact fun h => h.2.2.1 c3)
      clear hbad hgood g4 g5 g6 hnum hlss hadd
      cbv
      rw [hc1]
      cbv
      rw [hof, hA1, decide_eq_false c1]
      cbv
      rw [hA2, decide_eq_false c2]
      cbv
      rw [hA3, decide_eq_true c3]
      cbv
      refine ⟨[0], .tup [.val (.slice none 0 0), .lit .i64 2], [.ro .u32 l], rfl, rfl, rfl, rfl, ?_, hb⟩
      cbv
    by_cases c4 : n < 2
    · have hb := hbad (by rw [← hbk]; exact fun h => h.2.2.2.1 c4)
      clear hbad hgood g4 g5 g6 hnum hlss hadd
      cbv
      rw [hc1]
      cbv
      rw [hof, hA1, decide_eq_false c1]
      cbv
      rw [hA2, decide_eq_false c2]
      cbv
      rw [hA3, decide_eq_false c3]
      cbv
      rw [hofn, hA4, decide_eq_true c4]
      cbv
      refine ⟨[0], .tup [.val (.slice none 0 0), .lit .i64 2], [.ro .u32 l], rfl, rfl, rfl, rfl, ?_, hb⟩
      cbv
    obtain ⟨hA6, hA7⟩ := hA5 (by omega) (by omega)
    by_cases c5 : 2 ^ most.toNat < n
    · have hb := hbad (by rw [← hbk]; exact fun h => h.2.2.2.2 c5)
      have hA8 := decide_eq_true c5
      rw [hA8] at hA7
      clear hbad hgood g4 g5 g6 hnum hlss hadd hbk c5 hA8
      cbv
      rw [hc1]
      cbv
      rw [hof, hA1, decide_eq_false c1]
      cbv
      rw [hA2, decide_eq_false c2]
      cbv
      rw [hA3, decide_eq_false c3]
      cbv
      rw [hofn, hA4, decide_eq_false c4]
      cbv
      refine ⟨hA6, ?_⟩
      rw [hofn, hA7]
      cbv
      refine ⟨[0], .tup [.val (.slice none 0 0), .lit .i64 2], [.ro .u32 l], rfl, rfl, rfl, rfl, ?_, hb⟩
      cbv
    have hfin := hgood (by rw [← hbk]; exact ⟨c1, c2, c3, c4, c5⟩)
    rw [decide_eq_false c5] at hA7
    have hb1 : 1 ≤ most := by omega
    have hb2 : most ≤ 15 := by omega
    have hn2 : 2 ≤ n := by omega
    have hnP : n ≤ 2 ^ most.toNat := by omega
    have hi1024 : i ≤ 1024 := by omega
    clear hbad hgood hbk
    have hris1 := hris k x ln cp n ca ca (by have : 2 ^ most.toNat ≤ 2 ^ 15 := Nat.pow_le_pow_right (by omega) (by omega); omega)
    have M1 := Le.mk hi1024
    have M2 := Le.mk hn2
    have M3 := Le.mk hnP
    clear hA5 c5 hnP
    cbv
    rw [hc1]
    cbv
    rw [hof, hA1, decide_eq_false c1]
    cbv
    rw [hA2, decide_eq_false c2]
    cbv
    rw [hA3, decide_eq_false c3]
    cbv
    rw [hofn, hA4, decide_eq_false c4]
    cbv
    refine ⟨hA6, ?_⟩
    rw [hofn, hA7]
    cbv
    refine call_con (ρ := [(1, .z)]) hris1 ⟨by rfl, by rfl, by rfl, by cbv; rw [ren_coin]; ((repeat' first | (refine And.intro ?_ ?_) | exact trivial | exact ⟨Nat.le_refl _⟩ | exact view_refl _ | exact fun _ => rfl | (simp only [renL3]; done) | (show SB.roA _ _ _ = SB.roA _ _ _; rfl) | exact funext fun _ => rfl) <;> rfl)⟩ ?_
    rintro v H R js2 ⟨rfl, rfl, q, ⟨z1, z2, z3⟩, rfl⟩
    cbv
    (repeat refine And.intro (fun _ => rfl) ?_)
    rw [ren_coin]
    obtain ⟨y1, y2, y3, y4, y5⟩ := coins_sorted (by rw [hL]; exact g4) (fun i hi => (hgd i (by rw [← hL]; exact hi)).2) z1 z3
    have y6 := g5.perm q y5
    have hrow1 : RowP n (fun m => k (q m)) (fun m => s (q m)) 1 n (fun m => k (q m)) (fun m => S (q m)) := .one (fun i hi => ⟨rfl, g6 (q i) (y5 i hi)⟩)
    obtain ⟨kc, hkc⟩ : ∃ kc, kc = fun m => k (q m) := ⟨_, rfl⟩
    obtain ⟨sc, hsc⟩ : ∃ kc, kc = fun m => s (q m) := ⟨_, rfl⟩
    obtain ⟨xc, hxc⟩ : ∃ kc, kc = fun m => x (q m) := ⟨_, rfl⟩
    obtain ⟨lc, hlc⟩ : ∃ kc, kc = fun m => ln (q m) := ⟨_, rfl⟩
    obtain ⟨cc, hcc⟩ : ∃ kc, kc = fun m => cp (q m) := ⟨_, rfl⟩
    obtain ⟨Sc, hSc⟩ : ∃ kc, kc = fun m => S (q m) := ⟨_, rfl⟩
    have y7 : ∀ m, m < n → Sc m = [(sc m : Int)] := fun m hm => by rw [hSc, hsc]; exact g6 (q m) (y5 m hm)
    have hkeq : (fun m => [SV.int .u64 (k (q m)), .val (.slice (some ⟨x (q m), 0, none⟩) (ln (q m)) (cp (q m)))]) = fun m => [.int .u64 (kc m), .val (.slice (some ⟨xc m, 0, none⟩) (lc m) (cc m))] := by
      rw [hkc, hxc, hlc, hcc]
    rw [hkeq]
    rw [← hkc, ← hsc, ← hSc] at hrow1
    rw [← hxc, ← hlc, ← hSc] at y6
    rw [← hkc] at y1
    replace y2 : ∀ i, i < n → kc i = l.getD (sc i) 0 ∧ sc i < l.length := by rw [hkc, hsc]; exact y2
    replace y3 : ∀ a b, a < n → b < n → sc a = sc b → a = b := by rw [hsc]; exact y3
    replace y4 : ∀ t, t < l.length → 0 < l.getD t 0 → ∃ m, m < n ∧ sc m = t := by rw [hsc]; exact y4
    clear z1 z2 z3 y5 g4 g5 g6 hkeq hkc hsc hxc hlc hcc hSc hris1
    have hn0 : 0 < n := by have := M2.out; omega
    obtain ⟨mo, hmo1⟩ : ∃ mo : Nat, most = ((mo + 1 : Nat) : Int) := ⟨most.toNat - 1, by omega⟩
    have hmo2 : mo + 1 ≤ 15 := by omega
    have hmt : most.toNat = mo + 1 := by omega
    obtain ⟨mI, hmI⟩ : ∃ mI, mI = vb .sub .i64 most 1 := ⟨_, rfl⟩
    have hmI2 : mI = (mo : Int) := by rw [hmI, qb, sub_i64 (by omega) (by omega)]; omega
    have hcold0 : ∀ id, c id = none → updC c id (.rows 2 n (rowV kc xc lc cc)) id = some (.rows 2 n (rowV kc xc lc cc)) ∧ ColdS (updC c id (.rows 2 n (rowV kc xc lc cc))) n xc lc Sc := fun id hid => ⟨updC_new _ _ _, y6.upd hid⟩
    rw [← hmI]
    refine WX.cv (Cv.frz1 (b := 1) (C := .rows 2 n (rowV kc xc lc cc)) (by rfl) rfl (by simp) rfl (fun σ w h => frz_bufA _ hn0 (fun σ i hi => rowV_den kc xc lc cc σ i) h) (fun id hid => ?_))
    refine Cv.warm 6 2 (id := id) (len := n) (cap := ca) (B := .roA 2 n (fun m => [.int .u64 (kc m), .val (.slice (some ⟨xc m, 0, none⟩) (lc m) (cc m))])) (by rfl) (hcold0 id hid).1 (fun σ w h => warm_rows (fun σ i hi => rowV_den kc xc lc cc σ i) h) rfl (by cbv) (Cv.here ?_)
    have hinv : (0 : Int) = ((0 : Nat) : Int) ∧ 0 ≤ mo ∧ RowIn n kc sc xc lc Sc (0 + 1) n id ca kc xc lc cc Sc (updC c id (.rows 2 n (rowV kc xc lc cc))) := ⟨rfl, Nat.zero_le _, ⟨hrow1, g3, (hcold0 id hid).1, (hcold0 id hid).2, (hcold0 id hid).2⟩⟩
    generalize updC c id (.rows 2 n (rowV kc xc lc cc)) = c0 at *
    clear hcold0 y6 hid g3 hrow1
    cbv
    refine loop_famC (α := Int × Nat × Nat × Nat × Nat × (Nat → Int) × (Nat → Nat) × (Nat → Nat) × (Nat → Nat) × (Nat → List Int) × (Nat → Option CB)) ([11, 12] ++ [60, 61, 62, 63, 64] ++ [67, 68, 69, 70, 71, 72, 73, 74, 75, 76, 77, 78, 79, 80, 81, 82, 83, 84, 85, 86, 87, 88, 89, 90, 91, 92, 93, 94, 95, 96, 97, 98, 99, 100, 101, 102, 103, 104, 105, 106, 107, 108, 109, 110, 111]) [1, 3, 5]
      (fun (jI, j, N, idr, capr, K, x, ln, cp, S, c) => [(66, .int .i64 jI), (10, .val (.slice (some ⟨idr, 0, none⟩) N capr))])
      (fun _ => [])
      (fun (jI, j, N, idr, capr, K, x, ln, cp, S, c) => c)
      (fun (jI, j, N, idr, capr, K, x, ln, cp, S, c) => jI = j ∧ j ≤ mo ∧ RowIn n kc sc xc lc Sc (j + 1) N idr capr K x ln cp S c)
      (fun (jI, j, N, idr, capr, K, x, ln, cp, S, c) => mo - j) hw hm ?_ ?_
    · refine Cv.genAt [66] [] (Cv.fold ([11, 12] ++ [60, 61, 62, 63, 64] ++ [67, 68, 69, 70, 71, 72, 73, 74, 75, 76, 77, 78, 79, 80, 81, 82, 83, 84, 85, 86, 87, 88, 89, 90, 91, 92, 93, 94, 95, 96, 97, 98, 99, 100, 101, 102, 103, 104, 105, 106, 107, 108, 109, 110, 111]) 3 [1, 3, 5] (by exact Nat.le_refl _) (by exact Nat.le_of_ble_eq_true rfl) (by rfl) (by cbv) ?_)
      intro js2
      exact ⟨(_, 0, _, _, _, _, _, _, _, _, _), hinv, js2, rfl⟩
    clear hinv
    rintro ⟨jI, j, N, idr, capr, K, x, ln, cp, S, c⟩ js2 ⟨f1, f2, f3⟩
    by_cases hj : j < mo
    · have hc2 : vc .lss jI mI = true := by rw [hlss jI mI j mo f1 hmI2]; exact decide_eq_true hj
      obtain ⟨_, hRB⟩ := f3.row.basic y1 (by decide)
      have hNn : N ≤ 2 * n := hRB.n2
      have hn15 : n ≤ 32768 := by have := M3.out; rw [hmt] at this; have : 2 ^ (mo + 1) ≤ 2 ^ 15 := Nat.pow_le_pow_right (by omega) hmo2; omega
      have hfit0 : Fits n 32 := ⟨by omega⟩
      have hadd00 : vaddN 0 n = n := hadd0 n
      have hB1 : ∀ m, m < N → 0 ≤ K m ∧ K m ≤ 4294967295 * 32768 ∧ (S m).length ≤ 32768 ∧ 0 < (S m).length := fun m hm => by
        have e1 := hRB.pos m hm
        have e2 := hRB.le m hm
        have e3 := hRB.len m hm
        have e4 : (2 : Nat) ^ (j + 1 - 1) ≤ 2 ^ 15 := Nat.pow_le_pow_right (by omega) (by omega)
        have e5 : (4294967295 : Int) * ((2 ^ (j + 1 - 1) : Nat) : Int) ≤ 4294967295 * 32768 := Int.mul_le_mul_of_nonneg_left (by omega) (by decide)
        omega
      have hat := f3.at'
      have hrow := f3.row
      have hofN : vofN N = (N : Int) := by rw [qofN]
      obtain ⟨NI, hNI⟩ : ∃ NI, NI = (N : Int) := ⟨_, rfl⟩
      rw [← hNI] at hofN
      have hinv1 : ∀ ca3 : Nat, n ≤ ca3 → (0 : Int) = ((2 * 0 : Nat) : Int) ∧ n = n + 0 ∧ n ≤ ca3 ∧ NextIn n kc xc lc Sc N 0 K S x ln kc xc lc Sc c := fun ca3 h => ⟨rfl, rfl, h, ⟨Nat.zero_le _, fun m _ => ⟨rfl, rfl⟩, fun d hd => absurd hd (Nat.not_lt_zero d), f3.coins, f3.syms, f3.coins⟩⟩
      clear hRB f3
      cbv
      rw [hc2]
      cbv
      refine ⟨fun _ => rfl, ⟨Nat.le_of_eq hadd00⟩, ⟨Nat.le_refl _⟩, hfit0, fun _ => rfl, fun _ => rfl, fun _ => rfl, ?_⟩
      intro ca3 jv hca3
      have hca3' : n ≤ ca3 := hca3.out
      have hinv2 := hinv1 ca3 hca3'
      clear hinv1 hca3
      cbv
      refine WX.cv (Cv.warm 10 2 (id := idr) (len := N) (cap := capr) (B := .roA 2 N (fun m => [.int .u64 (K m), .val (.slice (some ⟨x m, 0, none⟩) (ln m) (cp m))])) (by rfl) hat (fun σ w h => warm_rows (fun σ i hi => rowV_den K x ln cp σ i) h) rfl (by cbv; exact ⟨fun _ => rfl, fun _ => rfl, trivial⟩) (Cv.here ?_))
      cbv
      refine loop_famC (α := Int × Nat × Nat × Nat × (Nat → Int) × (Nat → Nat) × (Nat → Nat) × (Nat → Nat) × (Nat → List Int) × (Nat → Option CB)) [68, 69, 70, 71, 72, 73, 74, 75, 76, 77, 78, 79, 80, 81, 82, 83, 84, 85, 86, 87, 88, 89, 90, 91, 92, 93, 94, 95, 96, 97, 98, 99, 100, 101, 102, 103, 104, 105, 106, 107] [1, 3, 5]
        (fun (kI, e, M, ca3, k0, x0, l0, c0, S0, c) => [(12, .int .i64 kI), (11, .slice 3 .z 2 M ca3)])
        (fun (kI, e, M, ca3, k0, x0, l0, c0, S0, c) => [(3, .bufA 109 2 M (fun m => [.int .u64 (k0 m), .val (.slice (some ⟨x0 m, 0, none⟩) (l0 m) (c0 m))]) ca3)])
        (fun (kI, e, M, ca3, k0, x0, l0, c0, S0, c) => c)
        (fun (kI, e, M, ca3, k0, x0, l0, c0, S0, c) => kI = ((2 * e : Nat) : Int) ∧ M = n + e ∧ M ≤ ca3 ∧ NextIn n kc xc lc Sc N e K S x ln k0 x0 l0 S0 c)
        (fun (kI, e, M, ca3, k0, x0, l0, c0, S0, c) => N - e) hw hm ?_ ?_
      · refine Cv.genAt [12] [] (Cv.fold [68, 69, 70, 71, 72, 73, 74, 75, 76, 77, 78, 79, 80, 81, 82, 83, 84, 85, 86, 87, 88, 89, 90, 91, 92, 93, 94, 95, 96, 97, 98, 99, 100, 101, 102, 103, 104, 105, 106, 107] 5 [1, 3, 5] (by exact Nat.le_refl _) (by exact Nat.le_of_ble_eq_true rfl) (by rfl) (by cbv) ?_)
        intro js3
        exact ⟨(_, 0, _, _, _, _, _, _, _, _), hinv2, js3, rfl⟩
      clear hinv2 hca3' hat
      rintro ⟨kI, e, M, ca4, k0, x0, l0, c0, S0, c⟩ js3 ⟨h1, h2, h3, h4⟩
      obtain ⟨k1I, hk1⟩ : ∃ u, u = vb .add .i64 kI 1 := ⟨_, rfl⟩
      have hk1' : k1I = ((2 * e + 1 : Nat) : Int) := hk1.trans (hadd kI 1 (2 * e) 1 h1 rfl (by have := h4.le; omega))
      have hc3' : vc .lss k1I NI = decide (2 * e + 1 < N) := hlss k1I NI (2 * e + 1) N hk1' hNI
      by_cases he : 2 * e + 1 < N
      · have hc3 : vc .lss k1I NI = true := by rw [hc3']; exact decide_eq_true he
        have hr0 : InR kI N := ⟨by omega⟩
        have hr1 : InR k1I N := ⟨by omega⟩
        obtain ⟨E0, hE0⟩ : ∃ E0, E0 = 2 * e := ⟨_, rfl⟩
        obtain ⟨E1, hE1⟩ : ∃ E0, E0 = 2 * e + 1 := ⟨_, rfl⟩
        have ht0 : vtoN kI = E0 := by rw [hE0]; exact hto kI _ h1
        have ht1 : vtoN k1I = E1 := by rw [hE1]; exact hto k1I _ hk1'
        have hl0 : E0 < N := by omega
        have hl1 : E1 < N := by omega
        have hN0 : 0 < N := by omega
        obtain ⟨b0, b1, b2, b6⟩ := hB1 E0 hl0
        obtain ⟨b3, b4, b5, b7⟩ := hB1 E1 hl1
        have hsum : vb .add .u64 (K E0) (K E1) = K E0 + K E1 := by rw [qb]; exact wrap_u64 (by omega) (by omega)
        obtain ⟨u1, u2⟩ := h4.syms.out E0 hl0
        obtain ⟨u3, u4⟩ := h4.syms.out E1 hl1
        have hle0 : ln E0 ≤ vln (S E0) := by rw [qln]; exact Nat.le_of_eq u2
        have hle1 : ln E1 ≤ vln (S E1) := by rw [qln]; exact Nat.le_of_eq u4
        have hsub0 : vsub (S E0) 0 (ln E0) = S E0 := by rw [qsub, u2]; simp
        have hsub1 : vsub (S E1) 0 (ln E1) = S E1 := by rw [qsub, u4]; simp
        have hon0 : ∀ xs, vonto [] 0 xs = xs := fun xs => by rw [qonto]; simp
        have hon1 : vonto (S E0) (ln E0) (S E1) = S E0 ++ S E1 := by rw [qonto, u2]; simp
        have had0 : ∀ m, vaddN 0 m = m := hadd0
        have hfa : Fits (ln E0) 8 := ⟨by omega⟩
        have hfb : Fits (vaddN (ln E0) (ln E1)) 8 := ⟨by rw [qaddN]; show (ln E0 + ln E1) * 8 ≤ _; omega⟩
        have hln0 : vln [] = 0 := by rw [qln]; rfl
        have hpl : 0 < (S E0 ++ S E1).length := by rw [List.length_append]; omega
        obtain ⟨e1, he1⟩ : ∃ e1, e1 = e + 1 := ⟨_, rfl⟩
        obtain ⟨M1, hM1⟩ : ∃ M1, M1 = vaddN M 1 := ⟨_, rfl⟩
        have hM1' : M1 = n + e1 := by rw [hM1, qaddN, he1, h2]; rfl
        have hM1'' : M1 = M + 1 := by rw [hM1, qaddN]
        have hfitM : Fits M1 32 := ⟨by have := h4.le; omega⟩
        have hlenS : ∀ lenT, lenT = vaddN (ln E0) (ln E1) → lenT = (S E0 ++ S E1).length := fun lenT h => by rw [h, qaddN, List.length_append, u2, u4]
        have hk2 : ∀ u : Int, u = vb .add .i64 kI 2 → u = ((2 * e1 : Nat) : Int) := fun u hu => by rw [hu, hadd kI 2 (2 * e) 2 h1 rfl (by omega), he1]; rfl
        have hstep : ∀ (id lenT : Nat), c id = none → lenT = (S E0 ++ S E1).length → NextIn n kc xc lc Sc N e1 K S x ln (updI k0 M (K E0 + K E1)) (updN x0 M id) (updN l0 M lenT) (updS S0 M (S E0 ++ S E1)) (updC c id (.ints .i64 (S E0 ++ S E1))) := fun id lenT hid hl => by
          rw [hE0, hE1, he1, h2] at *
          exact h4.step (by omega) hid lenT hl
        have hmu : N - e1 < N - e := by omega
        obtain ⟨KK, hKK⟩ : ∃ KK, KK = K E0 + K E1 := ⟨_, rfl⟩
        obtain ⟨SS, hSS⟩ : ∃ SS, SS = S E0 ++ S E1 := ⟨_, rfl⟩
        rw [← hKK] at hsum hstep
        rw [← hSS] at hon1 hpl hlenS hstep
        clear h4 hKK hSS
        clear hc3' hB1
        cbv
        rw [← hk1, hofN, hc3]
        cbv
        rw [← hk1, ht0, ht1]
        repeat (refine And.intro (by first | exact hr0 | exact hr1 | exact ⟨hl0⟩ | exact ⟨hl1⟩ | exact ⟨hN0⟩ | (rw [hadd0]; first | exact ⟨hl0⟩ | exact ⟨hl1⟩) | exact fun _ => rfl) ?_)
        refine ⟨⟨⟨hl1⟩, trivial⟩, ⟨⟨hl0⟩, trivial⟩, ⟨⟨hl1⟩, trivial⟩, ⟨⟨hl0⟩, trivial⟩, S E0, u1, ⟨hle0⟩, ?_⟩
        cbv
        rw [hsub0]
        refine ⟨⟨by rw [hln0]; exact Nat.le_refl _⟩, ⟨by rw [hln0]; exact Nat.le_refl _⟩, by rw [had0]; exact hfa, fun _ => rfl, fun _ => rfl, fun _ => rfl, ?_⟩
        intro cA jA hcA
        have hcA' : ln E0 ≤ cA := by rw [← had0 (ln E0)]; exact hcA.out
        clear hcA
        cbv
        rw [had0, hon0]
        refine ⟨⟨⟨hl1⟩, trivial⟩, ⟨⟨hl1⟩, trivial⟩, ⟨⟨hl0⟩, trivial⟩, S E1, u3, ⟨hle1⟩, ?_⟩
        cbv
        rw [hsub1]
        refine ⟨⟨hle0⟩, ⟨Nat.le_refl _⟩, hfb, fun _ => rfl, fun _ => rfl, fun _ => rfl, ?_⟩
        intro cB jB hcB
        obtain ⟨lenT, hlenT⟩ : ∃ lenT, lenT = vaddN (ln E0) (ln E1) := ⟨_, rfl⟩
        have hcB' : lenT ≤ cB := by rw [hlenT]; exact hcB.out
        clear hcB
        cbv
        rw [← hlenT, hon1, hsum]
        refine ⟨⟨⟨hl1⟩, trivial⟩, ⟨⟨hl0⟩, trivial⟩, fun _ => rfl, fun _ => rfl, fun _ => rfl, ⟨⟨hl1⟩, trivial⟩, ⟨⟨hl0⟩, trivial⟩, ⟨Nat.le_refl _⟩, ⟨Nat.le_refl _⟩, ?_, fun _ => rfl, fun _ => rfl, fun _ => rfl, fun _ => rfl, fun _ => rfl, ?_⟩
        · rw [← hM1]; exact hfitM
        intro cC jC hcC
        have hcC' : M1 ≤ cC := by rw [hM1]; exact hcC.out
        clear hcC
        cbv
        rw [← hM1]
        refine ⟨⟨⟨hl1⟩, trivial⟩, ⟨⟨hl0⟩, trivial⟩, ?_⟩
        obtain ⟨k2I, hk2I⟩ : ∃ u, u = vb .add .i64 kI 2 := ⟨_, rfl⟩
        rw [← hk2I]
        have hk2' := hk2 k2I hk2I
        refine Cv.frz2 (b := 5) (j := 3) (fun id m => [.int .u64 (updI k0 M KK m), .val (.slice (some ⟨updN x0 M id m, 0, none⟩) (updN l0 M lenT m) (updN c0 M cB m))]) (by rfl) rfl (by simp) rfl (fun σ w h => frz_buf hpl h) (by rfl) (by rfl)
          (fun σ id hσ m hm => coin_ext k0 x0 l0 c0 M KK 5 lenT cB id σ hσ m (by rw [← hM1'']; exact hm)) (fun id hid => ?_)
        have hf := hstep id lenT hid (hlenS lenT hlenT)
        refine Cv.fold [68, 69, 70, 71, 72, 73, 74, 75, 76, 77, 78, 79, 80, 81, 82, 83, 84, 85, 86, 87, 88, 89, 90, 91, 92, 93, 94, 95, 96, 97, 98, 99, 100, 101, 102, 103, 104, 105, 106, 107] 5 [1, 3, 5] (by exact Nat.le_refl _) (by exact Nat.le_of_ble_eq_true rfl) (by rfl) (by cbv) ?_
        intro js4
        exact ⟨(_, e1, M1, cC, _, _, _, updN c0 M cB, _, _), ⟨⟨hk2', hM1', hcC', hf⟩, hmu⟩, js4, rfl⟩
      · have hc3 : vc .lss k1I NI = false := by rw [hc3']; exact decide_eq_false he
        have heN : e = N / 2 := by have := h4.le; omega
        subst heN
        have hMb : M ≤ 100000 := by omega
        have hM0 : 0 < M := by omega
        have hris2 := hris k0 x0 l0 c0 M ca4 ca4 hMb
        obtain ⟨j1, hj1⟩ : ∃ j1, j1 = j + 1 := ⟨_, rfl⟩
        have hju : ∀ u : Int, u = vb .add .i64 jI 1 → (u = (j1 : Int) ∧ j1 ≤ mo) ∧ mo - j1 < mo - j := fun u hu => ⟨⟨by rw [hu, hj1]; exact hadd jI 1 j 1 f1 rfl (by omega), by omega⟩, by omega⟩
        have hdone : ∀ (q : Nat → Nat) (id : Nat), PermOn (fun m => m) q 0 M → St k0 q → Srt k0 q 0 M → c id = none →
            RowIn n kc sc xc lc Sc (j1 + 1) M id ca4 (fun m => k0 (q m)) (fun m => x0 (q m)) (fun m => l0 (q m)) (fun m => c0 (q m)) (fun m => S0 (q m)) (updC c id (.rows 2 M (rowV (fun m => k0 (q m)) (fun m => x0 (q m)) (fun m => l0 (q m)) (fun m => c0 (q m))))) := fun q id z1 z2 z3 hid => by
          rw [h2] at z1 z3
          obtain ⟨r1, r2⟩ := h4.done hrow y7 z1 z2 z3
          rw [← h2] at r1 r2
          rw [hj1]
          exact ⟨r1, h3, updC_new _ _ _, r2.upd hid, h4.coins.upd hid⟩
        clear h4 hrow hB1 hc3' hris he hMb
        cbv
        rw [← hk1, hofN, hc3]
        cbv
        refine call_con (ρ := [(3, .z)]) hris2 ⟨by rfl, by rfl, by rfl, by cbv; rw [ren_coin]; ((repeat' first | (refine And.intro ?_ ?_) | exact trivial | exact ⟨Nat.le_refl _⟩ | exact view_refl _ | exact fun _ => rfl | (simp only [renL3]; done) | (show SB.roA _ _ _ = SB.roA _ _ _; rfl) | exact funext fun _ => rfl) <;> rfl)⟩ ?_
        rintro v H R js4 ⟨rfl, rfl, q, ⟨z1, z2, z3⟩, rfl⟩
        cbv
        (repeat refine And.intro (fun _ => rfl) ?_)
        rw [ren_coin]
        obtain ⟨u, hu⟩ : ∃ u, u = vb .add .i64 jI 1 := ⟨_, rfl⟩
        rw [← hu]
        have hju' := hju u hu
        refine Cv.frz1 (b := 3) (C := .rows 2 M (rowV (fun m => k0 (q m)) (fun m => x0 (q m)) (fun m => l0 (q m)) (fun m => c0 (q m)))) (by rfl) rfl (by simp) rfl (fun σ w h => frz_bufA _ hM0 (fun σ i hi => rowV_den (fun m => k0 (q m)) (fun m => x0 (q m)) (fun m => l0 (q m)) (fun m => c0 (q m)) σ i) h) (fun id hid => ?_)
        have hf := hdone q id z1 z2 z3 hid
        refine Cv.fold ([11, 12] ++ [60, 61, 62, 63, 64] ++ [67, 68, 69, 70, 71, 72, 73, 74, 75, 76, 77, 78, 79, 80, 81, 82, 83, 84, 85, 86, 87, 88, 89, 90, 91, 92, 93, 94, 95, 96, 97, 98, 99, 100, 101, 102, 103, 104, 105, 106, 107, 108, 109, 110, 111]) 3 [1, 3, 5] (by exact Nat.le_refl _) (by exact Nat.le_of_ble_eq_true rfl) (by rfl) (by cbv) ?_
        intro js5
        exact ⟨(_, j1, M, id, ca4, _, _, _, _, _, _), ⟨⟨hju'.1.1, hju'.1.2, hf⟩, hju'.2⟩, js5, rfl⟩
    · have hc2 : vc .lss jI mI = false := by rw [hlss jI mI j mo f1 hmI2]; exact decide_eq_false hj
      have hjm : j = mo := Nat.le_antisymm f2 (Nat.le_of_not_lt hj)
      subst hjm
      obtain ⟨_, hRB⟩ := f3.row.basic y1 (by decide)
      have hmany := f3.row.many (L := j + 1) (by have := M3.out; rwa [hmt] at this) 0 rfl
      obtain ⟨T, hT⟩ : ∃ T, T = 2 * n - 2 := ⟨_, rfl⟩
      have hn2' := M2.out
      have hTN : T ≤ N := by omega
      have hn15 : n ≤ 32768 := by have := M3.out; rw [hmt] at this; have : 2 ^ (j + 1) ≤ 2 ^ 15 := Nat.pow_le_pow_right (by omega) hmo2; omega
      obtain ⟨tI, htI⟩ : ∃ u, u = vb .mul .i64 2 (vb .sub .i64 nI 1) := ⟨_, rfl⟩
      have hnI2 : nI = (n : Int) := hnI
      have hLI2 : LI = (i : Int) := hLI
      have htI' : tI = (T : Int) := by rw [htI, qb, hnI2, sub_i64 (by omega) (by omega), mul_i64 (by omega) (by omega)]; omega
      have hnn : NonNeg LI := ⟨by omega⟩
      have htoL : vtoN LI = i := hto LI i hLI
      have hicL : InC LI i := ⟨by omega⟩
      have hfmL : FitsMk LI 1 := ⟨by have := hlen'.out; omega⟩
      have htoT : vtoN tI = T := hto tI T htI'
      have hcapN := f3.cap
      have hicT : InC tI capr := ⟨by omega⟩
      have hofT : vofN T = tI := by rw [qofN, htI']
      have hrep : vrep i 0 = List.replicate i 0 := by rw [qrep]
      have hsym : ∀ t, t < N → (∃ r, c (x t) = some (.ints .i64 (S t)) ∧ r = ln t ∧ ln t = (S t).length) ∧ ∀ y ∈ S t, ∃ z : Nat, y = (z : Int) ∧ z < i := fun t ht => ⟨⟨_, (f3.syms.out t ht).1, rfl, (f3.syms.out t ht).2⟩, fun y hy => by
        obtain ⟨z, h1, h2⟩ := hRB.sym t ht y hy
        exact ⟨sc z, h2, by rw [← hL]; exact (y2 z h1).2⟩⟩
      have hlim : ∀ o, OutP S i T 0 o → PT (.tup [.slice 1 .z 1 i i, .int .i64 0]) [.ro .u32 l, .ints 5 .u8 o] [] := fun o ho => by
        obtain ⟨o1, o2⟩ := ho.out
        refine hfin o ⟨n, N, kc, sc, K, S, hnum, y1, y2, y3, y4, by rw [hmt]; exact f3.row, by rw [← hT]; exact hTN, by rw [o1, hL], fun s hs => ?_⟩
        rw [o2 s (by rw [← hL]; exact hs), hT]; simp [sumS]
      have hat := f3.at'
      have hlenN : ∀ t, t < N → ln t ≤ 32768 := fun t ht => by
        have e3 := (hRB.len t ht).1
        have e4 : (2 : Nat) ^ (j + 1 - 1) ≤ 2 ^ 15 := Nat.pow_le_pow_right (by omega) (by omega)
        rw [(f3.syms.out t ht).2]; omega
      have hstart := OutP.start S i
      clear hRB f3 hmany hfin y1 y2 y3 y4 y7 hnum hris hj f1 hmt hmo1 hmo2
      cbv
      rw [hc2]
      cbv
      rw [hof, htoL]
      refine ⟨hnn, hnn, hicL, hfmL, fun _ => rfl, ?_⟩
      rw [hofn, ← htI, hrep]
      generalize hzz : List.replicate i (0 : Int) = oz at *
      refine ⟨hicT, ?_⟩
      rw [htoT]
      cbv
      rw [hofT]
      have hinv3 : (0 : Int) = ((0 : Nat) : Int) ∧ 0 ≤ T ∧ OutP S i 0 0 oz := ⟨rfl, Nat.zero_le _, hstart⟩
      have hNT : T ≤ N := hTN
      refine WX.cv (Cv.warm 120 2 (id := idr) (len := T) (cap := capr) (B := .roA 2 N (fun m => [.int .u64 (K m), .val (.slice (some ⟨x m, 0, none⟩) (ln m) (cp m))])) (by rfl) hat (fun σ w h => warm_rows (fun σ i hi => rowV_den K x ln cp σ i) h) rfl (by cbv; exact ⟨fun _ => rfl, trivial⟩) (Cv.here ?_))
      cbv
      refine loop_fam (α := Int × Nat × List Int) ([15, 17] ++ [123, 124, 125, 126, 127, 128, 129, 130, 131, 132, 133, 134, 135, 136, 137, 138, 139, 140]) [1, 3, 5]
        (fun (xI, t, o) => [(122, .int .i64 xI)])
        (fun (xI, t, o) => [(3, .ints 5 .u8 o)])
        (fun (xI, t, o) => xI = t ∧ t ≤ T ∧ OutP S i t 0 o)
        (fun (xI, t, o) => T - t) hw hm ?_ ?_
      · refine Cv.genAt [122] [] (Cv.fold ([15, 17] ++ [123, 124, 125, 126, 127, 128, 129, 130, 131, 132, 133, 134, 135, 136, 137, 138, 139, 140]) 5 [1, 3, 5] (by exact Nat.le_refl _) (by exact Nat.le_of_ble_eq_true rfl) (by rfl) (by cbv) ?_)
        intro js3
        exact ⟨(_, 0, _), hinv3, js3, rfl⟩
      clear hinv3 hstart hat
      rintro ⟨xI, t, o⟩ js3 ⟨g1, g2, g3⟩
      have hc3' := hlss xI tI t T g1 htI'
      by_cases ht : t < T
      rotate_left
      · have hc3 : vc .lss xI tI = false := by rw [hc3']; exact decide_eq_false ht
        have htT : t = T := Nat.le_antisymm g2 (Nat.le_of_not_lt ht)
        have hpost := hlim o (by rw [← htT]; exact g3)
        clear hc3' g3 hsym hlim hlenN hlss hadd hto
        cbv
        rw [hc3]
        cbv
        refine ⟨[0, 3], .tup [.slice 1 .z 1 i i, .lit .i64 0], [.ro .u32 l, .ints 5 .u8 o], rfl, rfl, rfl, rfl, ?_, hpost⟩
        cbv
      · have hc3 : vc .lss xI tI = true := by rw [hc3']; exact decide_eq_true ht
        have htN : t < N := Nat.lt_of_lt_of_le ht hNT
        obtain ⟨⟨rr, v1, v2, v3⟩, v4⟩ := hsym t htN
        have hrx : InR xI T := ⟨by omega⟩
        have htx := hto xI t g1
        obtain ⟨lI, hlI⟩ : ∃ u, u = vofN (ln t) := ⟨_, rfl⟩
        have hlI' : lI = (ln t : Int) := by rw [hlI, qofN]
        obtain ⟨t1, ht1⟩ : ∃ t1, t1 = t + 1 := ⟨_, rfl⟩
        have hln := hlenN t htN
        have hnx : ∀ (u : Int) (o' : List Int), u = vb .add .i64 xI 1 → OutP S i t (ln t) o' → (u = (t1 : Int) ∧ t1 ≤ T ∧ OutP S i t1 0 o') ∧ T - t1 < T - t := fun u o' hu ho => by
          rw [ht1]
          exact ⟨⟨by rw [hu]; exact hadd xI 1 t 1 g1 rfl (by have := hlen'.out; omega), by omega, ho.next v3⟩, by omega⟩
        have hinv4 : (0 : Int) = ((0 : Nat) : Int) ∧ 0 ≤ ln t ∧ OutP S i t 0 o := ⟨rfl, Nat.zero_le _, g3⟩
        have hT0 : 0 < N := by omega
        clear hc3' g3 hlim hsym hlenN
        cbv
        rw [hc3]
        cbv
        rw [htx, ← hlI]
        repeat (refine And.intro (by first | exact hrx | exact ⟨htN⟩ | exact ⟨hT0⟩ | (rw [hadd0]; exact ⟨htN⟩) | exact fun _ => rfl) ?_)
        refine WX.cv (Cv.warm 127 1 (id := x t) (len := ln t) (cap := cp t) (B := .ro .i64 (S t)) (by rfl) v1 (fun σ w h => warm_ints h) rfl (by cbv; exact ⟨fun _ => rfl, fun _ => rfl, trivial⟩) (Cv.here ?_))
        cbv
        refine loop_fam (α := Int × Nat × List Int) ([17] ++ [130, 131, 132, 133, 134, 135, 136, 137, 138, 139]) [1, 3, 5]
          (fun (rI, r, o) => [(129, .int .i64 rI)])
          (fun (rI, r, o) => [(3, .ints 5 .u8 o)])
          (fun (rI, r, o) => rI = r ∧ r ≤ ln t ∧ OutP S i t r o)
          (fun (rI, r, o) => ln t - r) hw hm ?_ ?_
        · refine Cv.genAt [129] [] (Cv.fold ([17] ++ [130, 131, 132, 133, 134, 135, 136, 137, 138, 139]) 7 [1, 3, 5] (by exact Nat.le_refl _) (by exact Nat.le_of_ble_eq_true rfl) (by rfl) (by cbv) ?_)
          intro js4
          exact ⟨(_, 0, _), hinv4, js4, rfl⟩
        clear hinv4
        rintro ⟨rI, r, o2⟩ js4 ⟨w1, w2, w3⟩
        have hc4' := hlss rI lI r (ln t) w1 hlI'
        by_cases hr : r < ln t
        rotate_left
        · have hc4 : vc .lss rI lI = false := by rw [hc4']; exact decide_eq_false hr
          have hrl : r = ln t := Nat.le_antisymm w2 (Nat.le_of_not_lt hr)
          have hnx2 := fun u hu => hnx u o2 hu (by rw [← hrl]; exact w3)
          clear hc4' w3 hnx v4
          cbv
          rw [hc4]
          cbv
          obtain ⟨u, hu⟩ : ∃ u, u = vb .add .i64 xI 1 := ⟨_, rfl⟩
          rw [← hu]
          have hf := hnx2 u hu
          refine Cv.fold ([15, 17] ++ [123, 124, 125, 126, 127, 128, 129, 130, 131, 132, 133, 134, 135, 136, 137, 138, 139, 140]) 5 [1, 3, 5] (by exact Nat.le_refl _) (by exact Nat.le_of_ble_eq_true rfl) (by rfl) (by cbv) ?_
          intro js5
          exact ⟨(_, t1, _), hf, js5, rfl⟩
        · have hc4 : vc .lss rI lI = true := by rw [hc4']; exact decide_eq_true hr
          have hrS : r < (S t).length := by rw [← v3]; exact hr
          obtain ⟨z, hz, hzi⟩ := v4 ((S t).getD r 0) (by rw [List.getD_eq_getElem?_getD, List.getElem?_eq_getElem hrS]; exact List.getElem_mem _)
          obtain ⟨zI, hzI⟩ : ∃ zI, zI = (z : Int) := ⟨_, rfl⟩
          have hg1 : vgd (S t) r = zI := by rw [qgd, hzI]; exact hz
          have hvl1 : r < vln (S t) := by rw [qln]; exact hrS
          obtain ⟨o1, o2'⟩ := w3.out
          have hvl2 : z < vln o2 := by rw [qln]; show z < o2.length; rw [o1]; exact hzi
          have hrr : InR rI (ln t) := ⟨by omega⟩
          have hrz : InR zI i := ⟨by omega⟩
          have htr := hto rI r w1
          have htz := hto zI z hzI
          obtain ⟨r1, hr1⟩ : ∃ r1, r1 = r + 1 := ⟨_, rfl⟩
          have hstep := w3.step hrS hz hzi
          have hwr : vb .add .u8 (vgd o2 z) 1 = (o2.getD z 0 + 1) % 256 := by
            rw [qb, qgd]; show IntKind.u8.wrap (o2.getD z 0 + 1) = _
            simp [IntKind.wrap, IntKind.bits, IntKind.signed]
          have hst : vst o2 z ((o2.getD z 0 + 1) % 256) = o2.set z ((o2.getD z 0 + 1) % 256) := by rw [qst]
          obtain ⟨o3, ho3⟩ : ∃ o3, o3 = o2.set z ((o2.getD z 0 + 1) % 256) := ⟨_, rfl⟩
          rw [← ho3] at hstep hst
          have hnx3 : ∀ u : Int, u = vb .add .i64 rI 1 → (u = (r1 : Int) ∧ r1 ≤ ln t ∧ OutP S i t r1 o3) ∧ ln t - r1 < ln t - r := fun u hu => by
            rw [hr1]
            exact ⟨⟨by rw [hu]; exact hadd rI 1 r 1 w1 rfl (by omega), hr, hstep⟩, by omega⟩
          obtain ⟨vz, hvz⟩ : ∃ vz, vz = (o2.getD z 0 + 1) % 256 := ⟨_, rfl⟩
          rw [← hvz] at hwr hst
          clear hc4' w3 hnx v4 hstep hvz o2' ho3
          cbv
          rw [hc4]
          cbv
          rw [htr, hg1, htz]
          refine ⟨hrr, ⟨by rw [hadd0]; exact hvl1⟩, ⟨hvl1⟩, hrz, ⟨hvl2⟩, hrz, ⟨hvl2⟩, ?_⟩
          rw [hwr, hst]
          obtain ⟨u, hu⟩ : ∃ u, u = vb .add .i64 rI 1 := ⟨_, rfl⟩
          rw [← hu]
          have hf := hnx3 u hu
          refine Cv.fold ([17] ++ [130, 131, 132, 133, 134, 135, 136, 137, 138, 139]) 7 [1, 3, 5] (by exact Nat.le_refl _) (by exact Nat.le_of_ble_eq_true rfl) (by rfl) (by cbv) ?_
          intro js5
          exact ⟨(_, r1, o3), hf, js5, rfl⟩
end
end Go.Proofs.Ytodobmkflimfkaa
