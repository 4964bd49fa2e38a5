import Derived.Test.YtbipjekiobmpgaaCode
import Derived.Test.YtbipjekiobmpgaaEC
namespace Go.Proofs.Ytbipjekiobmpgaa
open Go Go.Sx Go.Proofs
/-! sequences.Value and sequences.Pick. -/
theorem hmix : Try.prog.follows .mixedOrders = true := by kernel_rfl
def kOf (lits back : Int) : Int := if lits = 0 then back else back - 1
def dOf (a b c k : Int) : Int := if k = 0 then a else if k = 1 then b else if k = 2 then c else bV .sub .i64 a 1
/-- What a step means, and what is kept then. -/
def val3 (a b c lits back : Int) : Int × Int × Int × Int × Int :=
  if back < 1 then (0, 2, a, b, c)
  else if 3 < back then (bV .sub .i64 back 3, 0, bV .sub .i64 back 3, a, b)
  else if dOf a b c (kOf lits back) < 1 then (0, 11, a, b, c)
  else (dOf a b c (kOf lits back), 0, dOf a b c (kOf lits back), if kOf lits back = 0 then b else a, if kOf lits back ≤ 1 then c else b)
theorem gtr_true {x y : Int} : cV .gtr x y = true ↔ y < x := by simp [cV]
theorem gtr_false {x y : Int} : cV .gtr x y = false ↔ ¬ (y < x) := by simp [cV]
/-- The second and the third, when so many are still to be moved. -/
def sh3 (i x y z : Int) : Int × Int := if i = 0 then (y, z) else if i = 1 then (x, z) else (x, y)
set_option maxRecDepth 10000
set_option maxHeartbeats 40000000
theorem value_con (a b c lits back : Int) :
    Con Try.prog 8 [.ptr 0 .z 1 0, .int .i64 lits, .int .i64 back] [.ints 22 .i64 [a, b, c]]
      (fun v H R => ∃ d e x y z, val3 a b c lits back = (d, e, x, y, z) ∧ v = .tup [.int .i64 d, .int .i64 e] ∧ R = [] ∧ H = [.ints 22 .i64 [x, y, z]]) := by
  refine con_gen (con_cut 1 (by simp) (con_drop (con_walk hmix fn8 ?_)))
  intro vb vc vw vtoN vofN vaddN vsubN vmaxI vminI vcutN vgd vst vln vrep vsub vonto vsplice vstrEq vbyteV vnotB veqB hw qb qc qw qtoN qofN qaddN qsubN qmaxI qminI qcutN qgd qst qln qrep qsub qonto qsplice qstrEq qbyteV qnotB qeqB
  have hm := hmix; generalize Try.prog = P at *
  have hv1 : back < 1 → val3 a b c lits back = (0, 2, a, b, c) := fun h => by unfold val3; rw [if_pos h]
  have hv2 : 3 < back → val3 a b c lits back = (bV .sub .i64 back 3, 0, bV .sub .i64 back 3, a, b) := fun h => by unfold val3; rw [if_neg (by omega), if_pos h]
  have hv3 : ¬ back < 1 → ¬ 3 < back → ∀ k d, kOf lits back = k → dOf a b c k = d → d < 1 → val3 a b c lits back = (0, 11, a, b, c) := fun h1 h2 k d h3 h4 h5 => by
    unfold val3; rw [if_neg h1, if_neg h2, h3, h4, if_pos h5]
  have hv4 : ¬ back < 1 → ¬ 3 < back → ∀ k d, kOf lits back = k → dOf a b c k = d → ¬ d < 1 → val3 a b c lits back = (d, 0, d, if k = 0 then b else a, if k ≤ 1 then c else b) := fun h1 h2 k d h3 h4 h5 => by
    unfold val3; rw [if_neg h1, if_neg h2, h3, h4, if_neg h5]
  have hk : kOf lits back = if lits = 0 then back else back - 1 := rfl
  have hd : ∀ k, dOf a b c k = if k = 0 then a else if k = 1 then b else if k = 2 then c else bV .sub .i64 a 1 := fun _ => rfl
  rw [← qb] at hv2
  rw [← qb] at hd
  generalize val3 a b c lits back = V at *
  generalize kOf lits back = KK at *
  generalize dOf a b c = DD at *
  have hl3 : ∀ x y z : Int, vln [x, y, z] = 3 := fun x y z => by rw [qln]; rfl
  have hg0 : ∀ x y z : Int, vgd [x, y, z] 0 = x := fun x y z => by rw [qgd]; rfl
  have hg1 : ∀ x y z : Int, vgd [x, y, z] 1 = y := fun x y z => by rw [qgd]; rfl
  have hg2 : ∀ x y z : Int, vgd [x, y, z] 2 = z := fun x y z => by rw [qgd]; rfl
  have hs0 : ∀ x y z w : Int, vst [x, y, z] 0 w = [w, y, z] := fun x y z w => by rw [qst]; rfl
  have hs1 : ∀ x y z w : Int, vst [x, y, z] 1 w = [x, w, z] := fun x y z w => by rw [qst]; rfl
  have hs2 : ∀ x y z w : Int, vst [x, y, z] 2 w = [x, y, w] := fun x y z w => by rw [qst]; rfl
  cbv
  generalize hz1 : vc .lss back 1 = z1
  cases z1
  rotate_left
  · cbv
    rw [qc, lss_true] at hz1
    exact ⟨0, 2, a, b, c, hv1 hz1, rfl, rfl, rfl⟩
  rw [qc, lss_false] at hz1
  cbv
  generalize hz2 : vc .gtr back 3 = z2
  cases z2
  rotate_left
  · rw [qc, gtr_true] at hz2
    have h2 := hv2 hz2
    obtain ⟨B3, hB3⟩ : ∃ B3, vb .sub .i64 back 3 = B3 := ⟨_, rfl⟩
    rw [hB3] at h2
    cbv
    rw [hB3, hl3, hg0, hg1, hs0, hl3, hs1, hl3, hs2, hl3]
    refine ⟨⟨by decide⟩, ⟨by decide⟩, ⟨by decide⟩, ⟨by decide⟩, ⟨by decide⟩, ⟨by decide⟩, ⟨by decide⟩, ⟨by decide⟩, ⟨by decide⟩, ?_⟩
    exact ⟨_, _, _, _, _, h2, by rw [hg0]; rfl, rfl, rfl⟩
  rw [qc, gtr_false] at hz2
  have hv3 := hv3 hz1 hz2
  have hv4 := hv4 hz1 hz2
  obtain ⟨b1, hb1⟩ : ∃ b1, b1 = back - 1 := ⟨_, rfl⟩
  have eb1 : vb .sub .i64 back 1 = b1 := by rw [qb, sub_i64 (by omega) (by omega)]; omega
  have eb2 : vb .add .i64 b1 1 = back := by rw [qb, add_i64 (by omega) (by omega)]; omega
  cbv
  rw [eb1]
  generalize hz3 : vc .eql lits 0 = z3
  have hK : ∃ K, K = KK ∧ 0 ≤ K ∧ K ≤ 3 ∧ (z3 = true → back = K) ∧ (z3 = false → b1 = K) := by
    cases z3
    · rw [qc, eql_false] at hz3
      rw [if_neg hz3] at hk
      exact ⟨KK, rfl, by omega, by omega, (fun h => by cases h), fun _ => by omega⟩
    · rw [qc, eql_true] at hz3
      rw [if_pos hz3] at hk
      exact ⟨KK, rfl, by omega, by omega, (fun _ => by omega), (fun h => by cases h)⟩
  obtain ⟨K, hK1, hK2, hK3, hK4, hK5⟩ := hK
  obtain ⟨d, hdd⟩ : ∃ d, d = DD K := ⟨_, rfl⟩
  have hv3 := hv3 K d hK1.symm hdd.symm
  have hv4 := hv4 K d hK1.symm hdd.symm
  have hm3 : K < 3 → ∃ m : Nat, m < 3 ∧ vtoN K = m ∧ vgd [a, b, c] m = d := fun h => by
    rw [hdd, hd]
    rcases (by omega : K = 0 ∨ K = 1 ∨ K = 2) with e | e | e
    · exact ⟨0, by omega, by rw [e, qtoN]; rfl, by rw [hg0, if_pos e]⟩
    · exact ⟨1, by omega, by rw [e, qtoN]; rfl, by rw [hg1, if_neg (by omega), if_pos e]⟩
    · exact ⟨2, by omega, by rw [e, qtoN]; rfl, by rw [hg2, if_neg (by omega), if_neg (by omega), if_pos e]⟩
  have hm4 : K = 3 → vb .sub .i64 a 1 = d := fun h => by rw [hdd, hd, if_neg (by omega), if_neg (by omega), if_neg (by omega)]
  obtain ⟨i0, hi0⟩ : ∃ i0, i0 = vminI K 2 := ⟨_, rfl⟩
  have hi1 : i0 = if 2 < K then 2 else K := by rw [hi0, qminI]
  have hsh : sh3 i0 a b c = (if K = 0 then b else a, if K ≤ 1 then c else b) := by
    unfold sh3
    rcases (by omega : K = 0 ∨ K = 1 ∨ K = 2 ∨ K = 3) with e | e | e | e <;> rw [hi1, e] <;> simp
  have hi2 : 0 ≤ i0 ∧ i0 ≤ 2 := by rw [hi1]; split <;> omega
  have ht0 : vtoN 0 = 0 := by rw [qtoN]; rfl
  have ht1 : vtoN 1 = 1 := by rw [qtoN]; rfl
  have ht2 : vtoN 2 = 2 := by rw [qtoN]; rfl
  have hu1 : vb .sub .i64 1 1 = 0 := by rw [qb]; rfl
  have hu2 : vb .sub .i64 2 1 = 1 := by rw [qb]; rfl
  have hsh0 : ∀ x y z, sh3 0 x y z = (y, z) := fun _ _ _ => rfl
  have hsh1 : ∀ x y z, sh3 1 x y z = sh3 0 x x z := fun _ _ _ => rfl
  have hsh2 : ∀ x y z, sh3 2 x y z = sh3 1 x y y := fun _ _ _ => rfl
  generalize sh3 = SH at *
  clear hz3 hk hv1 hv2 hd hdd
  cases z3
  · have hK5 := hK5 rfl
    clear hK4 eb2 eb1
    cbv
    rw [hK5]
    clear hK5 hb1
    rw [hl3, hg0]
    refine ⟨⟨by decide⟩, ⟨by decide⟩, ?_⟩
    generalize hz4 : vc .lss K 3 = z4
    cases z4
    · rw [qc, lss_false] at hz4
      rw [hm4 (by omega)]
      cbv
      generalize hz5 : vc .lss d 1 = z5
      cases z5
      rotate_left
      · rw [qc, lss_true] at hz5
        cbv
        exact ⟨_, _, _, _, _, hv3 hz5, rfl, rfl, rfl⟩
      · rw [qc, lss_false] at hz5
        have hv4 := hv4 hz5
        cbv
        rw [← hi0]
        refine loop_fam (α := Int × Int × Int) [59, 60, 61, 62, 63, 64, 65, 66, 67, 68, 69, 70, 71, 72] [] (fun (i, _, _) => [(10, .int .i64 i)]) (fun (_, y, z) => [(0, .ints 22 .i64 [a, y, z])])
          (fun (i, y, z) => 0 ≤ i ∧ i ≤ 2 ∧ SH i a y z = SH i0 a b c) (fun (i, _, _) => i.toNat) hw hm ?_ ?_
        · refine Cv.genAt [10] [0] (Cv.fold [59, 60, 61, 62, 63, 64, 65, 66, 67, 68, 69, 70, 71, 72] 1 [] (by exact Nat.le_refl _) (by exact Nat.le_of_ble_eq_true rfl) (by rfl) (by cbv) ?_)
          intro js
          refine ⟨(_, _, _), ?_, js, rfl⟩
          exact ⟨hi2.1, hi2.2, rfl⟩
        · rintro ⟨i, y, z⟩ js ⟨hi3, hi4, hshi⟩
          cbv
          generalize hz6 : vc .gtr i 0 = z6
          cases z6
          · rw [qc, gtr_false] at hz6
            obtain rfl : i = 0 := by omega
            rw [hsh0, hsh] at hshi
            cbv
            rw [hl3, hs0]
            refine ⟨⟨by decide⟩, ⟨by decide⟩, ?_⟩
            simp only [Prod.mk.injEq] at hshi
            obtain ⟨e1, e2⟩ := hshi
            rw [← e1, ← e2] at hv4
            exact ⟨_, _, _, _, _, hv4, rfl, rfl, rfl⟩
          · rw [qc, gtr_true] at hz6
            rcases (by omega : i = 1 ∨ i = 2) with rfl | rfl
            · rw [hsh1] at hshi
              cbv
              rw [hu1, ht0, ht1, hl3, hg0, hs1]
              refine ⟨⟨by decide⟩, ⟨by decide⟩, ⟨by decide⟩, ⟨by decide⟩, ?_⟩
              refine Cv.fold [59, 60, 61, 62, 63, 64, 65, 66, 67, 68, 69, 70, 71, 72] 1 [] (by exact Nat.le_refl _) (by exact Nat.le_of_ble_eq_true rfl) (by rfl) (by cbv) ?_
              intro js
              refine ⟨(_, _, _), ?_, js, rfl⟩
              exact ⟨⟨by omega, by omega, hshi⟩, by show (0 : Int).toNat < (1 : Int).toNat; decide⟩
            · rw [hsh2] at hshi
              cbv
              rw [hu2, ht1, ht2, hl3, hg1, hs2]
              refine ⟨⟨by decide⟩, ⟨by decide⟩, ⟨by decide⟩, ⟨by decide⟩, ?_⟩
              refine Cv.fold [59, 60, 61, 62, 63, 64, 65, 66, 67, 68, 69, 70, 71, 72] 1 [] (by exact Nat.le_refl _) (by exact Nat.le_of_ble_eq_true rfl) (by rfl) (by cbv) ?_
              intro js
              refine ⟨(_, _, _), ?_, js, rfl⟩
              exact ⟨⟨by omega, by omega, hshi⟩, by show (1 : Int).toNat < (2 : Int).toNat; decide⟩
    · rw [qc, lss_true] at hz4
      obtain ⟨m, hmm, htK, hgK⟩ := hm3 hz4
      cbv
      rw [htK, hgK, hl3]
      refine ⟨⟨⟨hK2, hz4⟩⟩, ⟨hmm⟩, ?_⟩
      generalize hz5 : vc .lss d 1 = z5
      cases z5
      rotate_left
      · rw [qc, lss_true] at hz5
        cbv
        exact ⟨_, _, _, _, _, hv3 hz5, rfl, rfl, rfl⟩
      · rw [qc, lss_false] at hz5
        have hv4 := hv4 hz5
        cbv
        rw [← hi0]
        refine loop_fam (α := Int × Int × Int) [59, 60, 61, 62, 63, 64, 65, 66, 67, 68, 69, 70, 71, 72] [] (fun (i, _, _) => [(10, .int .i64 i)]) (fun (_, y, z) => [(0, .ints 22 .i64 [a, y, z])])
          (fun (i, y, z) => 0 ≤ i ∧ i ≤ 2 ∧ SH i a y z = SH i0 a b c) (fun (i, _, _) => i.toNat) hw hm ?_ ?_
        · refine Cv.genAt [10] [0] (Cv.fold [59, 60, 61, 62, 63, 64, 65, 66, 67, 68, 69, 70, 71, 72] 1 [] (by exact Nat.le_refl _) (by exact Nat.le_of_ble_eq_true rfl) (by rfl) (by cbv) ?_)
          intro js
          refine ⟨(_, _, _), ?_, js, rfl⟩
          exact ⟨hi2.1, hi2.2, rfl⟩
        · rintro ⟨i, y, z⟩ js ⟨hi3, hi4, hshi⟩
          cbv
          generalize hz6 : vc .gtr i 0 = z6
          cases z6
          · rw [qc, gtr_false] at hz6
            obtain rfl : i = 0 := by omega
            rw [hsh0, hsh] at hshi
            cbv
            rw [hl3, hs0]
            refine ⟨⟨by decide⟩, ⟨by decide⟩, ?_⟩
            simp only [Prod.mk.injEq] at hshi
            obtain ⟨e1, e2⟩ := hshi
            rw [← e1, ← e2] at hv4
            exact ⟨_, _, _, _, _, hv4, rfl, rfl, rfl⟩
          · rw [qc, gtr_true] at hz6
            rcases (by omega : i = 1 ∨ i = 2) with rfl | rfl
            · rw [hsh1] at hshi
              cbv
              rw [hu1, ht0, ht1, hl3, hg0, hs1]
              refine ⟨⟨by decide⟩, ⟨by decide⟩, ⟨by decide⟩, ⟨by decide⟩, ?_⟩
              refine Cv.fold [59, 60, 61, 62, 63, 64, 65, 66, 67, 68, 69, 70, 71, 72] 1 [] (by exact Nat.le_refl _) (by exact Nat.le_of_ble_eq_true rfl) (by rfl) (by cbv) ?_
              intro js
              refine ⟨(_, _, _), ?_, js, rfl⟩
              exact ⟨⟨by omega, by omega, hshi⟩, by show (0 : Int).toNat < (1 : Int).toNat; decide⟩
            · rw [hsh2] at hshi
              cbv
              rw [hu2, ht1, ht2, hl3, hg1, hs2]
              refine ⟨⟨by decide⟩, ⟨by decide⟩, ⟨by decide⟩, ⟨by decide⟩, ?_⟩
              refine Cv.fold [59, 60, 61, 62, 63, 64, 65, 66, 67, 68, 69, 70, 71, 72] 1 [] (by exact Nat.le_refl _) (by exact Nat.le_of_ble_eq_true rfl) (by rfl) (by cbv) ?_
              intro js
              refine ⟨(_, _, _), ?_, js, rfl⟩
              exact ⟨⟨by omega, by omega, hshi⟩, by show (1 : Int).toNat < (2 : Int).toNat; decide⟩
  · have hK4 := hK4 rfl
    clear hK5
    cbv
    rw [eb2, hK4]
    clear hK4 eb1 eb2 hb1
    rw [hl3, hg0]
    refine ⟨⟨by decide⟩, ⟨by decide⟩, ?_⟩
    generalize hz4 : vc .lss K 3 = z4
    cases z4
    · rw [qc, lss_false] at hz4
      rw [hm4 (by omega)]
      cbv
      generalize hz5 : vc .lss d 1 = z5
      cases z5
      rotate_left
      · rw [qc, lss_true] at hz5
        cbv
        exact ⟨_, _, _, _, _, hv3 hz5, rfl, rfl, rfl⟩
      · rw [qc, lss_false] at hz5
        have hv4 := hv4 hz5
        cbv
        rw [← hi0]
        refine loop_fam (α := Int × Int × Int) [59, 60, 61, 62, 63, 64, 65, 66, 67, 68, 69, 70, 71, 72] [] (fun (i, _, _) => [(10, .int .i64 i)]) (fun (_, y, z) => [(0, .ints 22 .i64 [a, y, z])])
          (fun (i, y, z) => 0 ≤ i ∧ i ≤ 2 ∧ SH i a y z = SH i0 a b c) (fun (i, _, _) => i.toNat) hw hm ?_ ?_
        · refine Cv.genAt [10] [0] (Cv.fold [59, 60, 61, 62, 63, 64, 65, 66, 67, 68, 69, 70, 71, 72] 1 [] (by exact Nat.le_refl _) (by exact Nat.le_of_ble_eq_true rfl) (by rfl) (by cbv) ?_)
          intro js
          refine ⟨(_, _, _), ?_, js, rfl⟩
          exact ⟨hi2.1, hi2.2, rfl⟩
        · rintro ⟨i, y, z⟩ js ⟨hi3, hi4, hshi⟩
          cbv
          generalize hz6 : vc .gtr i 0 = z6
          cases z6
          · rw [qc, gtr_false] at hz6
            obtain rfl : i = 0 := by omega
            rw [hsh0, hsh] at hshi
            cbv
            rw [hl3, hs0]
            refine ⟨⟨by decide⟩, ⟨by decide⟩, ?_⟩
            simp only [Prod.mk.injEq] at hshi
            obtain ⟨e1, e2⟩ := hshi
            rw [← e1, ← e2] at hv4
            exact ⟨_, _, _, _, _, hv4, rfl, rfl, rfl⟩
          · rw [qc, gtr_true] at hz6
            rcases (by omega : i = 1 ∨ i = 2) with rfl | rfl
            · rw [hsh1] at hshi
              cbv
              rw [hu1, ht0, ht1, hl3, hg0, hs1]
              refine ⟨⟨by decide⟩, ⟨by decide⟩, ⟨by decide⟩, ⟨by decide⟩, ?_⟩
              refine Cv.fold [59, 60, 61, 62, 63, 64, 65, 66, 67, 68, 69, 70, 71, 72] 1 [] (by exact Nat.le_refl _) (by exact Nat.le_of_ble_eq_true rfl) (by rfl) (by cbv) ?_
              intro js
              refine ⟨(_, _, _), ?_, js, rfl⟩
              exact ⟨⟨by omega, by omega, hshi⟩, by show (0 : Int).toNat < (1 : Int).toNat; decide⟩
            · rw [hsh2] at hshi
              cbv
              rw [hu2, ht1, ht2, hl3, hg1, hs2]
              refine ⟨⟨by decide⟩, ⟨by decide⟩, ⟨by decide⟩, ⟨by decide⟩, ?_⟩
              refine Cv.fold [59, 60, 61, 62, 63, 64, 65, 66, 67, 68, 69, 70, 71, 72] 1 [] (by exact Nat.le_refl _) (by exact Nat.le_of_ble_eq_true rfl) (by rfl) (by cbv) ?_
              intro js
              refine ⟨(_, _, _), ?_, js, rfl⟩
              exact ⟨⟨by omega, by omega, hshi⟩, by show (1 : Int).toNat < (2 : Int).toNat; decide⟩
    · rw [qc, lss_true] at hz4
      obtain ⟨m, hmm, htK, hgK⟩ := hm3 hz4
      cbv
      rw [htK, hgK, hl3]
      refine ⟨⟨⟨hK2, hz4⟩⟩, ⟨hmm⟩, ?_⟩
      generalize hz5 : vc .lss d 1 = z5
      cases z5
      rotate_left
      · rw [qc, lss_true] at hz5
        cbv
        exact ⟨_, _, _, _, _, hv3 hz5, rfl, rfl, rfl⟩
      · rw [qc, lss_false] at hz5
        have hv4 := hv4 hz5
        cbv
        rw [← hi0]
        refine loop_fam (α := Int × Int × Int) [59, 60, 61, 62, 63, 64, 65, 66, 67, 68, 69, 70, 71, 72] [] (fun (i, _, _) => [(10, .int .i64 i)]) (fun (_, y, z) => [(0, .ints 22 .i64 [a, y, z])])
          (fun (i, y, z) => 0 ≤ i ∧ i ≤ 2 ∧ SH i a y z = SH i0 a b c) (fun (i, _, _) => i.toNat) hw hm ?_ ?_
        · refine Cv.genAt [10] [0] (Cv.fold [59, 60, 61, 62, 63, 64, 65, 66, 67, 68, 69, 70, 71, 72] 1 [] (by exact Nat.le_refl _) (by exact Nat.le_of_ble_eq_true rfl) (by rfl) (by cbv) ?_)
          intro js
          refine ⟨(_, _, _), ?_, js, rfl⟩
          exact ⟨hi2.1, hi2.2, rfl⟩
        · rintro ⟨i, y, z⟩ js ⟨hi3, hi4, hshi⟩
          cbv
          generalize hz6 : vc .gtr i 0 = z6
          cases z6
          · rw [qc, gtr_false] at hz6
            obtain rfl : i = 0 := by omega
            rw [hsh0, hsh] at hshi
            cbv
            rw [hl3, hs0]
            refine ⟨⟨by decide⟩, ⟨by decide⟩, ?_⟩
            simp only [Prod.mk.injEq] at hshi
            obtain ⟨e1, e2⟩ := hshi
            rw [← e1, ← e2] at hv4
            exact ⟨_, _, _, _, _, hv4, rfl, rfl, rfl⟩
          · rw [qc, gtr_true] at hz6
            rcases (by omega : i = 1 ∨ i = 2) with rfl | rfl
            · rw [hsh1] at hshi
              cbv
              rw [hu1, ht0, ht1, hl3, hg0, hs1]
              refine ⟨⟨by decide⟩, ⟨by decide⟩, ⟨by decide⟩, ⟨by decide⟩, ?_⟩
              refine Cv.fold [59, 60, 61, 62, 63, 64, 65, 66, 67, 68, 69, 70, 71, 72] 1 [] (by exact Nat.le_refl _) (by exact Nat.le_of_ble_eq_true rfl) (by rfl) (by cbv) ?_
              intro js
              refine ⟨(_, _, _), ?_, js, rfl⟩
              exact ⟨⟨by omega, by omega, hshi⟩, by show (0 : Int).toNat < (1 : Int).toNat; decide⟩
            · rw [hsh2] at hshi
              cbv
              rw [hu2, ht1, ht2, hl3, hg1, hs2]
              refine ⟨⟨by decide⟩, ⟨by decide⟩, ⟨by decide⟩, ⟨by decide⟩, ?_⟩
              refine Cv.fold [59, 60, 61, 62, 63, 64, 65, 66, 67, 68, 69, 70, 71, 72] 1 [] (by exact Nat.le_refl _) (by exact Nat.le_of_ble_eq_true rfl) (by rfl) (by cbv) ?_
              intro js
              refine ⟨(_, _, _), ?_, js, rfl⟩
              exact ⟨⟨by omega, by omega, hshi⟩, by show (1 : Int).toNat < (2 : Int).toNat; decide⟩
end Go.Proofs.Ytbipjekiobmpgaa
namespace Go.Proofs.Ytbipjekiobmpgaa
open Go Go.Sx Go.Proofs
set_option maxRecDepth 10000
set_option maxHeartbeats 40000000
/-- A step that means the distance. -/
def Hits (a b c lits dist p : Int) : Prop := ∃ x y z, val3 a b c lits p = (dist, 0, x, y, z)
theorem pick_con (a b c lits dist : Int) :
    Con Try.prog 6 [.ptr 0 .z 1 0, .int .i64 lits, .int .i64 dist] [.ints 22 .i64 [a, b, c]]
      (fun v H R => ∃ p, v = .int .i64 p ∧ R = [] ∧ H = [.ints 22 .i64 [a, b, c]] ∧ (dist < 1 → p = 0) ∧ (¬ dist < 1 → (1 ≤ p ∧ p ≤ 3 ∧ Hits a b c lits dist p) ∨ p = bV .add .i64 dist 3)) := by
  refine con_gen (con_cut 1 (by simp) (con_drop (con_walk hmix fn6 ?_)))
  intro vb vc vw vtoN vofN vaddN vsubN vmaxI vminI vcutN vgd vst vln vrep vsub vonto vsplice vstrEq vbyteV vnotB veqB hw qb qc qw qtoN qofN qaddN qsubN qmaxI qminI qcutN qgd qst qln qrep qsub qonto qsplice qstrEq qbyteV qnotB qeqB
  have hval := fun p => value_con a b c lits p
  have hH : ∀ p x y z, val3 a b c lits p = (dist, 0, x, y, z) → Hits a b c lits dist p := fun p x y z h => ⟨x, y, z, h⟩
  have hm := hmix; generalize Try.prog = P at *
  generalize hVV : val3 a b c lits = VV at *
  generalize Hits a b c lits dist = HT at *
  obtain ⟨p3, hp3⟩ : ∃ p3, vb .add .i64 dist 3 = p3 := ⟨_, rfl⟩
  have hp3' : p3 = bV .add .i64 dist 3 := by rw [← hp3, qb]
  generalize bV .add .i64 dist 3 = pB at *
  have hl3 : ∀ x y z : Int, vln [x, y, z] = 3 := fun x y z => by rw [qln]; rfl
  have hg0 : ∀ x y z : Int, vgd [x, y, z] 0 = x := fun x y z => by rw [qgd]; rfl
  have hg1 : ∀ x y z : Int, vgd [x, y, z] 1 = y := fun x y z => by rw [qgd]; rfl
  have hg2 : ∀ x y z : Int, vgd [x, y, z] 2 = z := fun x y z => by rw [qgd]; rfl
  have hs0 : ∀ x y z w : Int, vst [x, y, z] 0 w = [w, y, z] := fun x y z w => by rw [qst]; rfl
  have hs1 : ∀ x y z w : Int, vst [x, y, z] 1 w = [x, w, z] := fun x y z w => by rw [qst]; rfl
  have hs2 : ∀ x y z w : Int, vst [x, y, z] 2 w = [x, y, w] := fun x y z w => by rw [qst]; rfl
  have hr3 : vrep 3 0 = [0, 0, 0] := by rw [qrep]; rfl
  cbv
  generalize hz1 : vc .lss dist 1 = z1
  cases z1
  rotate_left
  · cbv
    rw [qc, lss_true] at hz1
    exact ⟨0, rfl, rfl, rfl, fun _ => rfl, fun h => absurd hz1 h⟩
  rw [qc, lss_false] at hz1
  cbv
  refine loop_fam (α := Int) ([8, 9, 10] ++ [17, 18, 19, 20, 21, 22, 23, 24, 25, 26, 27, 28, 29, 30, 31, 32, 33, 34, 35, 36]) [] (fun k => [(7, .int .i64 k)]) (fun _ => [])
    (fun k => 1 ≤ k ∧ k ≤ 4) (fun k => (4 - k).toNat) hw hm ?_ ?_
  · refine Cv.genAt [7] [] (Cv.fold ([8, 9, 10] ++ [17, 18, 19, 20, 21, 22, 23, 24, 25, 26, 27, 28, 29, 30, 31, 32, 33, 34, 35, 36]) 1 [] (by exact Nat.le_refl _) (by exact Nat.le_of_ble_eq_true rfl) (by rfl) (by cbv) ?_)
    intro js
    refine ⟨_, ?_, js, rfl⟩
    exact ⟨by decide, by decide⟩
  · rintro k js ⟨hk1, hk2⟩
    cbv
    generalize hz2 : vc .lss k 4 = z2
    cases z2
    · rw [qc, lss_false] at hz2
      cbv
      rw [hp3]
      exact ⟨p3, rfl, rfl, rfl, fun h => absurd h hz1, fun _ => .inr hp3'⟩
    · rw [qc, lss_true] at hz2
      have hval := hval k
      obtain ⟨k1, hk3⟩ : ∃ k1, k1 = k + 1 := ⟨_, rfl⟩
      have ek : vb .add .i64 k 1 = k1 := by rw [qb, add_i64 (by omega) (by omega)]; omega
      cbv
      rw [hl3, hg0, hg1, hg2, hr3, hs0, hs1, hs2, hl3, hl3, hl3]
      refine ⟨⟨by decide⟩, ⟨by decide⟩, ⟨by decide⟩, ⟨by decide⟩, ⟨by decide⟩, ⟨by decide⟩, ?_⟩
      refine call_con (ρ := [(1, .z)]) hval ⟨by rfl, by rfl, by rfl, by cbv⟩ ?_
      rintro v H R js2 ⟨d, e, x, y, z, hV, rfl, rfl, rfl⟩
      cbv
      generalize hz3 : vc .eql e 0 = z3
      have hend : ∀ _ : Unit, (4 - k1).toNat < (4 - k).toNat := fun _ => by omega
      cases z3
      · cbv
        rw [ek]
        refine Cv.fold ([8, 9, 10] ++ [17, 18, 19, 20, 21, 22, 23, 24, 25, 26, 27, 28, 29, 30, 31, 32, 33, 34, 35, 36]) 1 [] (by exact Nat.le_refl _) (by exact Nat.le_of_ble_eq_true rfl) (by rfl) (by cbv) ?_
        intro js
        refine ⟨_, ?_, js, rfl⟩
        exact ⟨⟨by omega, by omega⟩, hend ()⟩
      · rw [qc, eql_true] at hz3
        cbv
        generalize hz4 : vc .eql d dist = z4
        cases z4
        · cbv
          rw [ek]
          refine Cv.fold ([8, 9, 10] ++ [17, 18, 19, 20, 21, 22, 23, 24, 25, 26, 27, 28, 29, 30, 31, 32, 33, 34, 35, 36]) 1 [] (by exact Nat.le_refl _) (by exact Nat.le_of_ble_eq_true rfl) (by rfl) (by cbv) ?_
          intro js
          refine ⟨_, ?_, js, rfl⟩
          exact ⟨⟨by omega, by omega⟩, hend ()⟩
        · rw [qc, eql_true] at hz4
          subst hz3 hz4
          have hh := hH _ _ _ _ hV
          cbv
          exact ⟨k, rfl, rfl, rfl, fun h => absurd h hz1, fun _ => .inl ⟨hk1, by omega, hh⟩⟩
end Go.Proofs.Ytbipjekiobmpgaa
namespace Go.Proofs.Ytbipjekiobmpgaa
open Go Go.Sx Go.Proofs
/-! balerlaw13.wakes. -/
def tbQ : Tab := [(14, fun _ => x14, 253, [4, 8000005, 6])]
theorem tbQ_ok : TabOk Try.prog tbQ := ⟨fn14, trivial⟩

theorem val_w : val3 1 4 8 5 2 = (4, 0, 4, 1, 8) := by decide
theorem no_hit (p : Int) : ¬ (1 ≤ p ∧ p ≤ 3 ∧ Hits 4 1 8 5 100 p) := by
  rintro ⟨h1, h2, x, y, z, h⟩
  rcases (by omega : p = 1 ∨ p = 2 ∨ p = 3) with rfl | rfl | rfl <;> revert h <;> simp [val3, dOf, kOf]
set_option maxRecDepth 100000 in
set_option maxHeartbeats 4000000 in
theorem wakes13_con : Con Try.prog 7 [] [] (fun v H R => v = .bool true ∧ H = [] ∧ R = []) := by
  have hT := tbQ_ok
  have h8 := value_con 1 4 8 5 2
  have h6 := pick_con 4 1 8 5 100
  rw [val_w] at h8
  have hno := no_hit
  have h103 : bV .add .i64 100 3 = 103 := by decide
  rw [h103] at h6
  generalize Hits 4 1 8 5 100 = HT at *
  have hm := hmix
  refine con_gen (con_cut 0 (by simp) (con_drop (con_run 1000 tbQ hmix hT fn7 ?_)))
  generalize Try.prog = P at *
  cbv
  repeat (first | refine And.intro ⟨by decide⟩ ?_ | refine And.intro ⟨Nat.le_refl _⟩ ?_ | ((intro _ _ _; skip); cbv; done) | ((intro _ _ _; skip); cbv) | ((intro _ _; skip); cbv) | (intro _; cbv))
  refine CallX.mono' (fun _ _ h => h) (call_con (ρ := [(8, .z)]) h8 ⟨by rfl, by rfl, by rfl, by cbv⟩ ?_)
  rintro v H R js ⟨d, e, x, y, z, hV, rfl, rfl, rfl⟩
  cbv
  simp only [Prod.mk.injEq] at hV
  obtain ⟨rfl, rfl, rfl, rfl, rfl⟩ := hV
  cbv
  repeat (first | refine And.intro ⟨by decide⟩ ?_ | refine And.intro ⟨Nat.le_refl _⟩ ?_ | ((intro _ _ _; skip); cbv; done) | ((intro _ _ _; skip); cbv) | ((intro _ _; skip); cbv) | (intro _; cbv))
  refine CallX.mono' (fun _ _ h => h) (call_con (ρ := [(8, .z)]) h6 ⟨by rfl, by rfl, by rfl, by cbv⟩ ?_)
  rintro v H R js ⟨p, rfl, rfl, rfl, _, hp⟩
  obtain rfl : p = 103 := (hp (by decide)).resolve_left (hno p)
  cbv
  repeat (first | refine And.intro ⟨by decide⟩ ?_ | refine And.intro ⟨Nat.le_refl _⟩ ?_ | ((intro _ _ _; skip); cbv; done) | ((intro _ _ _; skip); cbv) | ((intro _ _; skip); cbv) | (intro _; cbv))
end Go.Proofs.Ytbipjekiobmpgaa
