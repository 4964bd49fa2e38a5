/-
  For every row of numbers and steps to the byte's end, balerlaw01.BitsBack returns true and leaves its argument as it was. No condition.
-/
import Derived.Test.YtgbnngjmjimhiaaSx27
import Derived.Test.YtgbnngjmjimhiaaP5
namespace Go.Proofs.Ytgbnngjmjimhiaa.bitsBack
open Go Go.Sx Go.ChangeShapes Go.WideShapes Go.ChangeAt Go.RowKit
set_option linter.unusedVariables false
set_option maxHeartbeats 8000000 in
theorem law_con (xs ns : Nat → Int) (ag : Nat → Bool) (len cap : Nat) (hcap : len ≤ cap) (hx : ∀ i, 0 ≤ xs i ∧ xs i < 2 ^ 64) (hns : ∀ i, -9223372036854775808 ≤ ns i ∧ ns i ≤ 9223372036854775807) :
    Con Try.prog 9 [.slice 0 .z 3 len cap] [.roA 3 len (fun i => [.int .u64 (xs i), .int .i64 (ns i), .bool (ag i)])] (fun v H R => v = .bool true ∧ H = [.roA 3 len (fun i => [.int .u64 (xs i), .int .i64 (ns i), .bool (ag i)])] ∧ R = [2]) := by
  have hput := fun k c => bputA_con (wb xs ns ag k) c (xs k) (ns k) (hx k) (wb_bit xs ns ag k)
  have halw := fun k c => balign_con (wb xs ns ag k) c
  have hbytes := fun k c => bbytes_con (wb xs ns ag k) c
  have hnew := fun k c h => rnew_con (pack (wb xs ns ag k)) c h
  have hwakes := bwakes_con
  have hby : ∀ L, ∀ x ∈ pack (wb xs ns ag L), isByte x := fun L => pack_byte _ (wb_bit xs ns ag L)
  have hal : ∀ (L k : Nat) (acc hv ai : Int) (c : Nat), L ≤ 300 → k < L → ag k = true → RS (pack (wb xs ns ag L)) (wb xs ns ag k).length acc hv ai →
      Con Try.prog 29 [.ptr 0 .z 4 0] [(.one 83 [.fn 38 [.ptr 1 .z 1 0, .ptr 2 .z 1 0], .int .u64 (acc), .int .i64 (hv), .fn 39 [.ptr 2 .z 1 0, .ptr 1 .z 1 0]]), .one 3 [.int .i64 ai], .one 22 [.slice 3 .z 1 (pack (wb xs ns ag L)).length c], .ro .u8 (pack (wb xs ns ag L))] (fun v H R => v = .tup [.int .u64 0, .int .i64 0] ∧ R = [] ∧ ∃ acc2 hv2 ai2, RS (pack (wb xs ns ag L)) (wb xs ns ag (k + 1)).length acc2 hv2 ai2 ∧ H = [(.one 83 [.fn 38 [.ptr 1 .z 1 0, .ptr 2 .z 1 0], .int .u64 (acc2), .int .i64 (hv2), .fn 39 [.ptr 2 .z 1 0, .ptr 1 .z 1 0]]), .one 3 [.int .i64 ai2], .one 22 [.slice 3 .z 1 (pack (wb xs ns ag L)).length c], .ro .u8 (pack (wb xs ns ag L))]) := by
    intro L k acc hv ai c hL hk ha h
    obtain ⟨e1, e2, e3⟩ := wb_pad xs ns ag k L hk ha
    have e4 : (pack (wb xs ns ag L)).length = ((wb xs ns ag L).length + 7) / 8 := pack_length _
    have e5 := wb_length xs ns ag L
    have h0 : 0 ≤ alN (wb xs ns ag k).length ∧ alN (wb xs ns ag k).length < 8 := by unfold alN; omega
    have hc : 0 ≤ alN (wb xs ns ag k).length ∧ alN (wb xs ns ag k).length ≤ 56 ∧ ((wb xs ns ag k).length : Int) + alN (wb xs ns ag k).length ≤ 8 * ((pack (wb xs ns ag L)).length : Int) := ⟨h0.1, by omega, by omega⟩
    have hX : rbX (pack (wb xs ns ag L)) (wb xs ns ag k).length (alN (wb xs ns ag k).length) = 0 := by unfold rbX; rw [if_pos hc, bitL_pack _ (wb_bit xs ns ag L)]; exact e3
    have hE : rbE (pack (wb xs ns ag L)) (wb xs ns ag k).length (alN (wb xs ns ag k).length) = 0 := by unfold rbE; rw [if_pos ⟨hc.1, hc.2.1⟩, if_pos hc.2.2]
    have hP : rbP (pack (wb xs ns ag L)) (wb xs ns ag k).length (alN (wb xs ns ag k).length) = (wb xs ns ag (k + 1)).length := by unfold rbP; rw [if_pos hc, e1]
    have := ralign_rs (pack (wb xs ns ag L)) (wb xs ns ag k).length c acc hv ai (hby L) (by omega) h
    rw [hX, hE, hP] at this
    exact this
  have hbt : ∀ (L k : Nat) (acc hv ai : Int) (c : Nat), L ≤ 300 → k < L → ag k = false → 0 ≤ ns k ∧ ns k ≤ 56 → RS (pack (wb xs ns ag L)) (wb xs ns ag k).length acc hv ai →
      Con Try.prog 31 [.ptr 0 .z 4 0, .int .i64 (ns k)] [(.one 83 [.fn 38 [.ptr 1 .z 1 0, .ptr 2 .z 1 0], .int .u64 (acc), .int .i64 (hv), .fn 39 [.ptr 2 .z 1 0, .ptr 1 .z 1 0]]), .one 3 [.int .i64 ai], .one 22 [.slice 3 .z 1 (pack (wb xs ns ag L)).length c], .ro .u8 (pack (wb xs ns ag L))] (fun v H R => v = .tup [.int .u64 (xs k % 2 ^ (ns k).toNat), .int .i64 0] ∧ R = [] ∧ ∃ acc2 hv2 ai2, RS (pack (wb xs ns ag L)) (wb xs ns ag (k + 1)).length acc2 hv2 ai2 ∧ H = [(.one 83 [.fn 38 [.ptr 1 .z 1 0, .ptr 2 .z 1 0], .int .u64 (acc2), .int .i64 (hv2), .fn 39 [.ptr 2 .z 1 0, .ptr 1 .z 1 0]]), .one 3 [.int .i64 ai2], .one 22 [.slice 3 .z 1 (pack (wb xs ns ag L)).length c], .ro .u8 (pack (wb xs ns ag L))]) := by
    intro L k acc hv ai c hL hk ha hn h
    obtain ⟨e1, e2, e3⟩ := wb_put xs ns ag k L hk ha hn
    have e4 : (pack (wb xs ns ag L)).length = ((wb xs ns ag L).length + 7) / 8 := pack_length _
    have e5 := wb_length xs ns ag L
    have hc : 0 ≤ ns k ∧ ns k ≤ 56 ∧ ((wb xs ns ag k).length : Int) + ns k ≤ 8 * ((pack (wb xs ns ag L)).length : Int) := ⟨hn.1, hn.2, by omega⟩
    have hX : rbX (pack (wb xs ns ag L)) (wb xs ns ag k).length (ns k) = xs k % 2 ^ (ns k).toNat := by unfold rbX; rw [if_pos hc, bitL_pack _ (wb_bit xs ns ag L)]; exact e3
    have hE : rbE (pack (wb xs ns ag L)) (wb xs ns ag k).length (ns k) = 0 := by unfold rbE; rw [if_pos hn, if_pos hc.2.2]
    have hP : rbP (pack (wb xs ns ag L)) (wb xs ns ag k).length (ns k) = (wb xs ns ag (k + 1)).length := by unfold rbP; rw [if_pos hc, e1]
    have := rbits_rs (pack (wb xs ns ag L)) (wb xs ns ag k).length c (ns k) acc hv ai (hby L) (by omega) h
    rw [hX, hE, hP] at this
    exact this
  have hle : ∀ (L k : Nat) (acc hv ai : Int) (c : Nat), L ≤ 300 → RS (pack (wb xs ns ag L)) (wb xs ns ag k).length acc hv ai → ∃ l : Int, l = 8 * ((pack (wb xs ns ag L)).length : Int) - ((wb xs ns ag k).length : Int) ∧
      Con Try.prog 33 [.ptr 0 .z 4 0] [(.one 83 [.fn 38 [.ptr 1 .z 1 0, .ptr 2 .z 1 0], .int .u64 (acc), .int .i64 (hv), .fn 39 [.ptr 2 .z 1 0, .ptr 1 .z 1 0]]), .one 3 [.int .i64 ai], .one 22 [.slice 3 .z 1 (pack (wb xs ns ag L)).length c], .ro .u8 (pack (wb xs ns ag L))] (fun v H R => v = .int .i64 l ∧ R = [] ∧ H = [(.one 83 [.fn 38 [.ptr 1 .z 1 0, .ptr 2 .z 1 0], .int .u64 (acc), .int .i64 (hv), .fn 39 [.ptr 2 .z 1 0, .ptr 1 .z 1 0]]), .one 3 [.int .i64 ai], .one 22 [.slice 3 .z 1 (pack (wb xs ns ag L)).length c], .ro .u8 (pack (wb xs ns ag L))]) := by
    intro L k acc hv ai c hL h
    have e4 : (pack (wb xs ns ag L)).length = ((wb xs ns ag L).length + 7) / 8 := pack_length _
    have e5 := wb_length xs ns ag L
    exact ⟨_, rfl, rleft_rs (pack (wb xs ns ag L)) (wb xs ns ag k).length c acc hv ai (by omega) h⟩
  refine con_cut 1 (by simp) (con_red [2] (con_walk hmix fn9 ?_))
  intro vb vc vw vtoN vofN vaddN vsubN vmaxI vminI vcutN vgd vst vln vrep vsub vonto vsplice vstrEq vbyteV vnotB veqB hw qb qc qw qtoN qofN qaddN qsubN qmaxI qminI qcutN qgd qst qln qrep qsub qonto qsplice qstrEq qbyteV qnotB qeqB
  have hm := hmix
  generalize Try.prog = P at *
  cbv
  generalize hz : vc .gtr (vofN len) 300 = z
  have hgoal : ∃ L : Nat, L ≤ len ∧ L ≤ 300 ∧ (z = false → L = len) ∧ (z = true → L = 300) := by
    cases z
    · refine ⟨len, Nat.le_refl _, ?_, fun _ => rfl, fun h => by cases h⟩
      rw [qc, qofN, gtr_false] at hz; simp only [nc] at *; omega
    · refine ⟨300, ?_, Nat.le_refl _, (fun h => by cases h), fun _ => rfl⟩
      rw [qc, qofN, gtr_true] at hz; simp only [nc] at *; omega
  obtain ⟨L, hLl, hL3, hLf, hLt⟩ := hgoal
  cases z
  all_goals first
    | (have hL := hLf rfl
       clear hLf hLt hz
       subst hL
       cbv
       refine ⟨fun _ => rfl, ?_⟩)
    | (have hL := hLt rfl
       clear hLf hLt hz
       cbv
       refine ⟨⟨by decide, by omega⟩, fun _ => rfl, ?_⟩
       rw [← hL]
       clear hL)
  all_goals
    refine WX.cv (Cv.nilB 1 0 5 .u8 (by rfl) (by cbv; exact ⟨fun _ => rfl, trivial⟩) (Cv.here ?_))
    cbv
    refine loop_fam (α := Int × Nat × Nat × Int × List Int) [5, 6, 25, 26, 27, 28, 29, 30, 31, 32, 33, 34, 35, 36, 37, 38, 39, 40, 41, 42, 43, 44, 45, 46, 47, 48, 49] [2]
      (fun (k, c, n1, m, l) => [(24, .int .i64 k)]) (fun (k, c, n1, m, l) => [(1, .one 56 [.slice 2 .z 1 n1 c, .int .i64 m]), (2, .buf 5 .u8 l c)])
      (fun (k, c, n1, m, l) => ∃ i : Nat, k = i ∧ i ≤ L ∧ l = pack (wb xs ns ag i) ∧ n1 = l.length ∧ m = (wb xs ns ag i).length) (fun (k, _) => L - k.toNat) hw hm ?_ ?_
    · refine Cv.genAt [24] [1] (Cv.fold [5, 6, 25, 26, 27, 28, 29, 30, 31, 32, 33, 34, 35, 36, 37, 38, 39, 40, 41, 42, 43, 44, 45, 46, 47, 48, 49] 3 [2] (by exact Nat.le_refl _) (by exact Nat.le_of_ble_eq_true rfl) (by rfl) (by cbv) ?_)
      intro js
      refine ⟨(_, _, _, _, _), ?_, js, rfl⟩
      exact ⟨0, rfl, by omega, (show pack [] = [] by decide).symm, rfl, rfl⟩
    · rintro ⟨k, c, n1, m, l⟩ js ⟨i, hk, hi, hl, hn1, hm1⟩
      have hbl := wb_length xs ns ag i
      have hput' := hput i c (by omega)
      have halw' := halw i c (by omega)
      have hby' := hbytes i c (by omega)
      simp only [nc] at hm1 hk hput' halw' hby'
      rw [← hl, ← hn1, ← hm1] at hput' halw' hby'
      cbv
      split
      · rename_i hlt
        have hlt : i < L := by rw [qc, qofN, lss_true] at hlt; simp only [nc] at *; omega
        have hin : 0 ≤ k ∧ k < (L : Int) := by simp only [nc] at *; omega
        have hti : vtoN k = i := by simp only [nc] at *; simp only [qtoN]; omega
        have hin2 : vaddN 0 i = i := by simp only [qaddN, Nat.zero_add]
        have hk1 : vb .add .i64 k 1 = ((i + 1 : Nat) : Int) := by simp only [nc] at *; rw [qb, add_i64 (by omega) (by omega)]; omega
        have hmu : L - (vb .add .i64 k 1).toNat < L - k.toNat := by rw [hk1, hk]; simp only [nc] at *; omega
        have hstep : wb xs ns ag (i + 1) = if ag i then padBits (wb xs ns ag i) else putBits (wb xs ns ag i) (xs i) (ns i) := rfl
        cbv
        rw [hti, hin2]
        cbv
        refine ⟨⟨hin⟩, ⟨by omega⟩, ⟨by omega⟩, ⟨by omega⟩, ⟨by omega⟩, fun _ => rfl, ?_⟩
        generalize hai : ag i = a0 at *
        cases a0
        · rw [if_neg (by simp)] at hstep
          rw [← hstep] at hput'
          generalize hl2 : pack (wb xs ns ag (i + 1)) = l2 at hput'
          generalize hn2 : l2.length = n2 at hput'
          simp only [nc] at hput'
          generalize hm2 : ((wb xs ns ag (i + 1)).length : Int) = m2 at hput'
          generalize he2 : putErr (ns i) = e2 at hput'
          have hzz : ∀ a, vnotB (veqB a a) = false := fun a => by simp only [qnotB, qeqB]; cases a <;> rfl
          cbv
          refine call_con (ρ := [(1, .z), (2, .z)]) hput' ⟨by rfl, by rfl, by rfl, by cbv; exact ⟨fun _ => rfl, trivial⟩⟩ ?_
          rintro v H R js ⟨rfl, rfl, c', rfl⟩
          cbv
          refine ⟨fun _ => rfl, ?_⟩
          by_cases hn0 : 0 ≤ ns i
          · have g1 : vc .geq (ns i) 0 = true := by rw [qc, geq_true]; exact hn0
            rw [g1]
            cbv
            by_cases hn56 : ns i ≤ 56
            · have g2 : vc .leq (ns i) 56 = true := by rw [qc, leq_true]; exact hn56
              have g3 : vc .eql e2 0 = true := by rw [qc, eql_true, ← he2]; unfold putErr; rw [if_pos ⟨hn0, hn56⟩]
              rw [g2, g3, hzz true]
              cbv
              refine Cv.fold [5, 6, 25, 26, 27, 28, 29, 30, 31, 32, 33, 34, 35, 36, 37, 38, 39, 40, 41, 42, 43, 44, 45, 46, 47, 48, 49] 3 [2] (by exact Nat.le_refl _) (by exact Nat.le_of_ble_eq_true rfl) (by rfl) (by cbv) ?_
              intro js
              refine ⟨(_, _, _, _, _), ?_, js, rfl⟩
              exact ⟨⟨i + 1, hk1, hlt, hl2.symm, hn2.symm, hm2.symm⟩, hmu⟩
            · have g2 : vc .leq (ns i) 56 = false := by rw [qc, leq_false]; exact hn56
              have g3 : vc .eql e2 0 = false := by rw [qc, eql_false, ← he2]; unfold putErr; rw [if_neg (fun h => hn56 h.2)]; decide
              rw [g2, g3, hzz false]
              cbv
              refine Cv.fold [5, 6, 25, 26, 27, 28, 29, 30, 31, 32, 33, 34, 35, 36, 37, 38, 39, 40, 41, 42, 43, 44, 45, 46, 47, 48, 49] 3 [2] (by exact Nat.le_refl _) (by exact Nat.le_of_ble_eq_true rfl) (by rfl) (by cbv) ?_
              intro js
              refine ⟨(_, _, _, _, _), ?_, js, rfl⟩
              exact ⟨⟨i + 1, hk1, hlt, hl2.symm, hn2.symm, hm2.symm⟩, hmu⟩
          · have g1 : vc .geq (ns i) 0 = false := by rw [qc, geq_false]; exact hn0
            have g3 : vc .eql e2 0 = false := by rw [qc, eql_false, ← he2]; unfold putErr; rw [if_neg (fun h => hn0 h.1)]; decide
            rw [g1, g3]
            cbv
            rw [hzz false]
            cbv
            refine Cv.fold [5, 6, 25, 26, 27, 28, 29, 30, 31, 32, 33, 34, 35, 36, 37, 38, 39, 40, 41, 42, 43, 44, 45, 46, 47, 48, 49] 3 [2] (by exact Nat.le_refl _) (by exact Nat.le_of_ble_eq_true rfl) (by rfl) (by cbv) ?_
            intro js
            refine ⟨(_, _, _, _, _), ?_, js, rfl⟩
            exact ⟨⟨i + 1, hk1, hlt, hl2.symm, hn2.symm, hm2.symm⟩, hmu⟩
        · rw [if_pos rfl] at hstep
          rw [← hstep] at halw'
          generalize hl2 : pack (wb xs ns ag (i + 1)) = l2 at halw'
          generalize hn2 : l2.length = n2 at halw'
          simp only [nc] at halw'
          generalize hm2 : ((wb xs ns ag (i + 1)).length : Int) = m2 at halw'
          cbv
          refine call_con (ρ := [(1, .z), (2, .z)]) halw' ⟨by rfl, by rfl, by rfl, by cbv; exact ⟨fun _ => rfl, trivial⟩⟩ ?_
          rintro v H R js ⟨rfl, rfl, rfl⟩
          cbv
          refine ⟨fun _ => rfl, ?_⟩
          refine Cv.fold [5, 6, 25, 26, 27, 28, 29, 30, 31, 32, 33, 34, 35, 36, 37, 38, 39, 40, 41, 42, 43, 44, 45, 46, 47, 48, 49] 3 [2] (by exact Nat.le_refl _) (by exact Nat.le_of_ble_eq_true rfl) (by rfl) (by cbv) ?_
          intro js
          refine ⟨(_, _, _, _, _), ?_, js, rfl⟩
          exact ⟨⟨i + 1, hk1, hlt, hl2.symm, hn2.symm, hm2.symm⟩, hmu⟩
      · rename_i hge
        have hiL : i = L := by rw [qc, qofN, lss_false] at hge; simp only [nc] at *; omega
        subst hiL
        have hnew' := fun c => hnew i c (by rw [pack_length]; omega)
        have hal' := fun k2 acc hv ai c => hal i k2 acc hv ai c hL3
        have hbt' := fun k2 acc hv ai c => hbt i k2 acc hv ai c hL3
        have hle' := fun k2 acc hv ai c => hle i k2 acc hv ai c hL3
        simp only [nc] at hle'
        simp only [← hl, ← hn1] at hnew' hal' hbt' hle'
        have hst := RS.start l
        have hll : l.length = ((wb xs ns ag i).length + 7) / 8 := by rw [hl, pack_length]
        generalize hRS : RS l = RSl at *
        clear hRS hal hbt hle hnew
        have hz0 : ∀ a, vc .neq a a = false := fun a => by rw [qc, neq_false]; simp
        cbv
        refine call_con (ρ := [(1, .z), (2, .z)]) hby' ⟨by rfl, by rfl, by rfl, by cbv; exact ⟨fun _ => rfl, trivial⟩⟩ ?_
        rintro v H R js ⟨rfl, c', rfl, rfl⟩
        cbv
        refine ⟨fun _ => rfl, ?_⟩
        refine call_con (ρ := [(3, .z)]) (hnew' c') ⟨by rfl, by rfl, by rfl, by cbv; exact ⟨fun _ => rfl, view_refl _, trivial⟩⟩ ?_
        rintro v H R js ⟨rfl, rfl, c4, rfl⟩
        cbv
        refine ⟨fun _ => rfl, ?_⟩
        refine loop_fam (α := Int × Int × Int × Int) [9, 10, 11, 12, 13, 14, 56, 57, 58, 59, 60, 61, 62, 63, 64, 65, 66, 67, 68, 69, 70, 71, 72, 73, 74, 75, 76, 77, 78, 79, 80, 81, 82, 83, 84, 85, 86, 87, 88, 89, 90, 91, 92, 93, 94, 95, 96, 97, 98, 99, 100, 101, 102, 103, 104, 105, 106, 107, 108, 109, 110, 111, 112] [2]
          (fun (k, acc, hv, ai) => [(55, .int .i64 k)]) (fun (k, acc, hv, ai) => [(6, .one 3 [.int .i64 ai]), (7, .one 83 [.fn 38 [.ptr 6 .z 1 0, .ptr 5 .z 1 0], .int .u64 acc, .int .i64 hv, .fn 39 [.ptr 5 .z 1 0, .ptr 6 .z 1 0]])])
          (fun (k, acc, hv, ai) => ∃ i2 : Nat, k = i2 ∧ i2 ≤ i ∧ RSl (wb xs ns ag i2).length acc hv ai) (fun (k, _) => i - k.toNat) hw hm ?_ ?_
        · refine Cv.genAt [55] [] (Cv.fold [9, 10, 11, 12, 13, 14, 56, 57, 58, 59, 60, 61, 62, 63, 64, 65, 66, 67, 68, 69, 70, 71, 72, 73, 74, 75, 76, 77, 78, 79, 80, 81, 82, 83, 84, 85, 86, 87, 88, 89, 90, 91, 92, 93, 94, 95, 96, 97, 98, 99, 100, 101, 102, 103, 104, 105, 106, 107, 108, 109, 110, 111, 112] 8 [2] (by exact Nat.le_refl _) (by exact Nat.le_of_ble_eq_true rfl) (by rfl) (by cbv) ?_)
          intro js
          refine ⟨(_, _, _, _), ?_, js, rfl⟩
          exact ⟨0, rfl, by omega, hst⟩
        · rintro ⟨k2, acc, hv, ai⟩ js ⟨i2, hk20, hi2, hrs⟩
          cbv
          split
          · rename_i hlt2
            have hlt2 : i2 < i := by rw [qc, qofN, lss_true] at hlt2; simp only [nc] at *; omega
            have hin2' : 0 ≤ k2 ∧ k2 < (i : Int) := by simp only [nc] at *; omega
            have hti2 : vtoN k2 = i2 := by simp only [nc] at *; simp only [qtoN]; omega
            have hin22 : vaddN 0 i2 = i2 := by simp only [qaddN, Nat.zero_add]
            have hk2 : vb .add .i64 k2 1 = ((i2 + 1 : Nat) : Int) := by simp only [nc] at *; rw [qb, add_i64 (by omega) (by omega)]; omega
            have hmu2 : i - (vb .add .i64 k2 1).toNat < i - k2.toNat := by rw [hk2, hk20]; simp only [nc] at *; omega
            have hstep : wb xs ns ag (i2 + 1) = if ag i2 then padBits (wb xs ns ag i2) else putBits (wb xs ns ag i2) (xs i2) (ns i2) := rfl
            have hal2 := hal' i2 acc hv ai c4 hlt2
            have hbt2 := hbt' i2 acc hv ai c4 hlt2
            obtain ⟨l0, hl0, hle2⟩ := hle' i2 acc hv ai c4 hrs
            cbv
            rw [hti2, hin22]
            cbv
            refine ⟨⟨hin2'⟩, ⟨by omega⟩, ⟨by omega⟩, ⟨by omega⟩, ⟨by omega⟩, fun _ => rfl, ?_⟩
            generalize hai : ag i2 = a0 at *
            cases a0
            · rw [if_neg (by simp)] at hstep
              cbv
              generalize g1 : vc .lss (ns i2) 0 = z1
              cases z1
              · cbv
                generalize g2 : vc .gtr (ns i2) 56 = z2
                cases z2
                · have hok : 0 ≤ ns i2 ∧ ns i2 ≤ 56 := ⟨by rw [qc, lss_false] at g1; omega, by rw [qc, gtr_false] at g2; omega⟩
                  have hbt3 := hbt2 rfl hok hrs
                  have hwn : vw .u64 (ns i2) = ns i2 := by simp only [qw]; exact wrap_u64 hok.1 (by omega)
                  have hnn : 0 ≤ vw .u64 (ns i2) := by rw [hwn]; exact hok.1
                  have hlen2 : (wb xs ns ag (i2 + 1)).length = (wb xs ns ag i2).length + (ns i2).toNat := by rw [hstep]; unfold putBits; rw [if_pos hok, List.length_append, bitsN_length]
                  have hcmp : vc .neq (xs i2 % 2 ^ (ns i2).toNat) (vb .and .u64 (xs i2) (vb .sub .u64 (vb .shl .u64 1 (vw .u64 (ns i2))) 1)) = false := by
                    have hpp := pow_le_56 (show (ns i2).toNat ≤ 56 by omega)
                    have hp0 : (0 : Int) < 2 ^ (ns i2).toNat := Int.pow_pos (by decide)
                    have e1 : vb .shl .u64 1 (ns i2) = 2 ^ (ns i2).toNat := by
                      rw [qb, shl_u rfl (by decide) (by show ns i2 ≤ ((64 : Nat) : Int); omega) (by show _ < (2 : Int) ^ 64; omega)]; omega
                    have e2 : vb .sub .u64 (2 ^ (ns i2).toNat) 1 = 2 ^ (ns i2).toNat - 1 := by
                      rw [qb]; exact wrap_u64 (by omega) (by omega)
                    rw [hwn, e1, e2, qc, qb, and_mask (k := .u64) rfl _ (by show (ns i2).toNat ≤ 64; omega) (hx i2).1 (hx i2).2, neq_false]
                    simp
                  generalize hXX : xs i2 % 2 ^ (ns i2).toNat = X at *
                  cbv
                  refine call_con (ρ := [(7, .z), (6, .z), (5, .z), (4, .z)]) hle2 ⟨by rfl, by rfl, by rfl, by cbv; exact ⟨fun _ => rfl, view_refl _, trivial⟩⟩ ?_
                  rintro v H R js ⟨rfl, rfl, rfl⟩
                  cbv
                  refine ⟨fun _ => rfl, ?_⟩
                  refine call_con (ρ := [(7, .z), (6, .z), (5, .z), (4, .z)]) hbt3 ⟨by rfl, by rfl, by rfl, by cbv; exact ⟨fun _ => rfl, view_refl _, trivial⟩⟩ ?_
                  rintro v H R js ⟨rfl, rfl, acc2, hv2, ai2, hrs2, rfl⟩
                  obtain ⟨l1, hl1, hle3⟩ := hle' (i2 + 1) acc2 hv2 ai2 c4 hrs2
                  have hb1 := wb_length xs ns ag i2
                  have hb2 := wb_length xs ns ag (i2 + 1)
                  have hdiff : vb .sub .i64 l0 (ns i2) = l1 := by
                    simp only [nc] at *
                    rw [qb, sub_i64 (by omega) (by omega)]; omega
                  cbv
                  refine ⟨fun _ => rfl, ?_⟩
                  rw [hz0 0]
                  cbv
                  refine ⟨⟨hnn⟩, ?_⟩
                  rw [hcmp]
                  cbv
                  refine call_con (ρ := [(7, .z), (6, .z), (5, .z), (4, .z)]) hle3 ⟨by rfl, by rfl, by rfl, by cbv; exact ⟨fun _ => rfl, view_refl _, trivial⟩⟩ ?_
                  rintro v H R js ⟨rfl, rfl, rfl⟩
                  cbv
                  refine ⟨fun _ => rfl, ?_⟩
                  rw [hdiff, hz0 l1]
                  cbv
                  refine Cv.fold [9, 10, 11, 12, 13, 14, 56, 57, 58, 59, 60, 61, 62, 63, 64, 65, 66, 67, 68, 69, 70, 71, 72, 73, 74, 75, 76, 77, 78, 79, 80, 81, 82, 83, 84, 85, 86, 87, 88, 89, 90, 91, 92, 93, 94, 95, 96, 97, 98, 99, 100, 101, 102, 103, 104, 105, 106, 107, 108, 109, 110, 111, 112] 8 [2] (by exact Nat.le_refl _) (by exact Nat.le_of_ble_eq_true rfl) (by rfl) (by cbv) ?_
                  intro js
                  refine ⟨(_, _, _, _), ?_, js, rfl⟩
                  exact ⟨⟨i2 + 1, hk2, hlt2, hrs2⟩, hmu2⟩
                · have hbad : ¬ (0 ≤ ns i2 ∧ ns i2 ≤ 56) := fun h => by rw [qc, gtr_true] at g2; omega
                  have hsame : wb xs ns ag (i2 + 1) = wb xs ns ag i2 := by rw [hstep]; unfold putBits; rw [if_neg hbad]
                  cbv
                  refine Cv.fold [9, 10, 11, 12, 13, 14, 56, 57, 58, 59, 60, 61, 62, 63, 64, 65, 66, 67, 68, 69, 70, 71, 72, 73, 74, 75, 76, 77, 78, 79, 80, 81, 82, 83, 84, 85, 86, 87, 88, 89, 90, 91, 92, 93, 94, 95, 96, 97, 98, 99, 100, 101, 102, 103, 104, 105, 106, 107, 108, 109, 110, 111, 112] 8 [2] (by exact Nat.le_refl _) (by exact Nat.le_of_ble_eq_true rfl) (by rfl) (by cbv) ?_
                  intro js
                  refine ⟨(_, _, _, _), ?_, js, rfl⟩
                  exact ⟨⟨i2 + 1, hk2, hlt2, by rw [hsame]; exact hrs⟩, hmu2⟩
              · have hbad : ¬ (0 ≤ ns i2 ∧ ns i2 ≤ 56) := fun h => by rw [qc, lss_true] at g1; omega
                have hsame : wb xs ns ag (i2 + 1) = wb xs ns ag i2 := by rw [hstep]; unfold putBits; rw [if_neg hbad]
                cbv
                refine Cv.fold [9, 10, 11, 12, 13, 14, 56, 57, 58, 59, 60, 61, 62, 63, 64, 65, 66, 67, 68, 69, 70, 71, 72, 73, 74, 75, 76, 77, 78, 79, 80, 81, 82, 83, 84, 85, 86, 87, 88, 89, 90, 91, 92, 93, 94, 95, 96, 97, 98, 99, 100, 101, 102, 103, 104, 105, 106, 107, 108, 109, 110, 111, 112] 8 [2] (by exact Nat.le_refl _) (by exact Nat.le_of_ble_eq_true rfl) (by rfl) (by cbv) ?_
                intro js
                refine ⟨(_, _, _, _), ?_, js, rfl⟩
                exact ⟨⟨i2 + 1, hk2, hlt2, by rw [hsame]; exact hrs⟩, hmu2⟩
            · have hal3 := hal2 rfl hrs
              cbv
              refine call_con (ρ := [(7, .z), (6, .z), (5, .z), (4, .z)]) hal3 ⟨by rfl, by rfl, by rfl, by cbv; exact ⟨fun _ => rfl, view_refl _, trivial⟩⟩ ?_
              rintro v H R js ⟨rfl, rfl, acc2, hv2, ai2, hrs2, rfl⟩
              cbv
              refine ⟨fun _ => rfl, ?_⟩
              rw [hz0 0]
              cbv
              rw [hz0 0]
              cbv
              refine Cv.fold [9, 10, 11, 12, 13, 14, 56, 57, 58, 59, 60, 61, 62, 63, 64, 65, 66, 67, 68, 69, 70, 71, 72, 73, 74, 75, 76, 77, 78, 79, 80, 81, 82, 83, 84, 85, 86, 87, 88, 89, 90, 91, 92, 93, 94, 95, 96, 97, 98, 99, 100, 101, 102, 103, 104, 105, 106, 107, 108, 109, 110, 111, 112] 8 [2] (by exact Nat.le_refl _) (by exact Nat.le_of_ble_eq_true rfl) (by rfl) (by cbv) ?_
              intro js
              refine ⟨(_, _, _, _), ?_, js, rfl⟩
              exact ⟨⟨i2 + 1, hk2, hlt2, hrs2⟩, hmu2⟩
          · rename_i hge2
            have hi2L : i2 = i := by rw [qc, qofN, lss_false] at hge2; simp only [nc] at *; omega
            subst hi2L
            obtain ⟨l0, hl0, hle2⟩ := hle' i2 acc hv ai c4 hrs
            have g1 : vc .geq l0 0 = true := by rw [qc, geq_true]; simp only [nc] at *; omega
            have g2 : vc .lss l0 8 = true := by rw [qc, lss_true]; simp only [nc] at *; omega
            cbv
            refine call_con (ρ := [(7, .z), (6, .z), (5, .z), (4, .z)]) hle2 ⟨by rfl, by rfl, by rfl, by cbv; exact ⟨fun _ => rfl, view_refl _, trivial⟩⟩ ?_
            rintro v H R js ⟨rfl, rfl, rfl⟩
            cbv
            refine ⟨fun _ => rfl, ?_⟩
            rw [g1]
            cbv
            refine call_con (ρ := [(7, .z), (6, .z), (5, .z), (4, .z)]) hle2 ⟨by rfl, by rfl, by rfl, by cbv; exact ⟨fun _ => rfl, view_refl _, trivial⟩⟩ ?_
            rintro v H R js ⟨rfl, rfl, rfl⟩
            cbv
            refine ⟨fun _ => rfl, ?_⟩
            rw [g2]
            cbv
            refine call_con (ρ := []) hwakes ⟨by rfl, by rfl, by rfl, by cbv; exact ⟨fun _ => rfl, trivial⟩⟩ ?_
            rintro v H R js ⟨rfl, rfl, rfl⟩
            cbv
            exact ⟨fun _ => rfl, trivial⟩
theorem own : ownKnob Try.prog.godebug = none := by kernel_rfl
set_option maxRecDepth 100000 in
theorem lifted (os : Os) (started : os.Started) (H : Type) (enc : TypeId × Value → H) :
    ReturnsInHanded {} Try.checked os 9 .any (Rows.bitsBackSpec.pre6 enc Try.prog Try.f9 Rows.bitsBackRow.domain false) (Rows.bitsBackSpec.post enc Try.prog Try.f9 false true false false) := by
  refine returnsInHanded_of_change (C := Try.checked) own started (by kernel_rfl) Try.func9
    (ChangeSpec.witness6 (enc := enc) (C := Try.checked) false ⟨#[], #[.slice none 0 0], []⟩ 8 (by kernel_rfl) (by kernel_rfl) (by kernel_rfl) (by kernel_rfl)) ?_
  intro W base args ds gs before hval0 hW hcnd _
  have hval : ∀ (j : Nat) t v, Try.f9.params[j]? = some t → args[j]? = some v → Value.okWide Try.prog W .any base t v := hval0
  have hW' := hW
  obtain ⟨p, q, hA0, hV, rfl, hfz, hnd⟩ := hW
  have hA : DataW.TrodAll enc Try.prog W 0 (fun _ => true) true Try.f9.params.toList args.toList ds p := hA0
  rw [Try.params9] at hA hval
  obtain ⟨v0, vs0, d0, ds0, p0, q0, hargs0, rfl, rfl, h0, r0⟩ := trodAll_cons hA
  obtain ⟨rfl, rfl, rfl⟩ := trodAll_nil r0
  obtain rfl : args = #[v0] := by cases args; simp_all
  obtain ⟨rfl, rfl⟩ := trodVars_none hV
  obtain ⟨s0, xs0, ns0, as0, len0, cap0, rfl, lt0, ho0, hx0, hn0, hc0⟩ := arg_trips (P := Try.prog) Try.underlying53 Try.underlying60 (by kernel_rfl) (by kernel_rfl) (by kernel_rfl) (by kernel_rfl) (by kernel_rfl) (by kernel_rfl) (by kernel_rfl) Try.underlying32 Try.underlying3 Try.underlying4 (hval 0 53 v0 rfl rfl) h0
  refine (con_below (law_con xs0 ns0 as0 len0 cap0 hc0 (fun i => wf_u64 (hx0 i)) (fun i => wf_i64 (hn0 i))) (by intro B hB; simp at hB; subst hB; rfl) (ok_args [(s0, .roA 3 len0 (fun i => [.int .u64 (xs0 i), .int .i64 (ns0 i), .bool (as0 i)]))] (by intro e he; simp at he; subst he; exact ⟨lt0, rfl, ho0⟩))).mono fun e W' ⟨he, hb⟩ => ⟨_, he, ?_⟩
  exact law_post hW' rfl (by kernel_rfl) Try.underlying4 (by kernel_rfl) (by kernel_rfl) rfl rfl rfl hb

theorem over : Rows.bitsBackRow.holds Try.pinned (OpenSpec.ofChange Rows.bitsBackSpec) :=
  OpenClaim.holds_of_wide 9 Try.f9 rfl rfl rfl rfl rfl rfl rfl ⟨rfl, rfl, rfl, rfl, rfl⟩ rfl rfl rfl rfl rfl (by kernel_rfl) Try.func9 (by kernel_rfl)
    (of_decide_eq_true (by kernel_rfl)) (by unfold Func.isWrapper; first | (rw [if_pos (by decide +kernel)]; kernel_rfl) | (rw [if_neg (by decide +kernel)]; exact ⟨rfl, rfl⟩))
    (fun os started H enc _ => lifted os started H enc)

theorem proved : Rows.BitsBackSaid :=
  over
#print axioms proved
end Go.Proofs.Ytgbnngjmjimhiaa.bitsBack
