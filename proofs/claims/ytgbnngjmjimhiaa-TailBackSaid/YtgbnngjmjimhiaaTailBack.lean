/-
  For every row of numbers, balerlaw03.TailBack returns true and leaves its argument as it was. No condition.
-/
import Derived.Test.YtgbnngjmjimhiaaSx24
import Derived.Test.YtgbnngjmjimhiaaC6
namespace Go.Proofs.Ytgbnngjmjimhiaa.tailBack
open Go Go.Sx Go.ChangeShapes Go.WideShapes Go.ChangeAt Go.RowKit
set_option linter.unusedVariables false
theorem allBits_split (xs ns : Nat → Int) (j : Nat) : ∀ i, j ≤ i → ∃ rest, allBits xs ns i = allBits xs ns j ++ rest
  | 0, h => ⟨[], by rw [Nat.le_zero.1 h]; simp⟩
  | i + 1, h => by
    by_cases he : j = i + 1
    · exact ⟨[], by rw [he]; simp⟩
    · obtain ⟨rest, hr⟩ := allBits_split xs ns j i (by omega)
      have e : allBits xs ns (i + 1) = putBits (allBits xs ns i) (xs i) (ns i) := rfl
      rw [e]
      unfold putBits
      split
      · exact ⟨rest ++ bitsN (xs i) (ns i).toNat, by rw [hr, List.append_assoc]⟩
      · exact ⟨rest, hr⟩
set_option maxHeartbeats 4000000 in
theorem law_con (xs ns : Nat → Int) (len cap : Nat) (hcap : len ≤ cap) (hx : ∀ i, 0 ≤ xs i ∧ xs i < 2 ^ 64) :
    Con Try.prog 5 [.slice 0 .z 2 len cap] [.roA 2 len (fun i => [.int .u64 (xs i), .int .i64 (ns i)])] (fun v H R => v = .bool true ∧ H = [.roA 2 len (fun i => [.int .u64 (xs i), .int .i64 (ns i)])] ∧ R = [3, 2]) := by
  have hput := fun k c => putA_con (allBits xs ns k) c (xs k) (ns k) (hx k) (allBits_bit xs ns k)
  have hclose := fun k c => close_con (allBits xs ns k) c (allBits_bit xs ns k)
  have hnew := fun k c => new_tail (allBits xs ns k) c (allBits_bit xs ns k)
  have hleft := left_con
  have hbits := bits_con
  have hwakes := wakes_con
  refine con_cut 1 (by simp) (con_red [3, 2] (con_walk hmix fn5 ?_))
  intro vb vc vw vtoN vofN vaddN vsubN vmaxI vminI vcutN vgd vst vln vrep vsub vonto vsplice vstrEq vbyteV vnotB veqB hw qb qc qw qtoN qofN qaddN qsubN qmaxI qminI qcutN qgd qst qln qrep qsub qonto qsplice qstrEq qbyteV qnotB qeqB
  have hm := hmix
  generalize Try.prog = P at *
  cbv
  generalize hz : vc .gtr (vofN len) 300 = z
  have hgoal : ∃ L : Nat, L ≤ len ∧ L ≤ 300 ∧ (z = false → L = len) ∧ (z = true → L = 300) := by
    cases z
    · refine ⟨len, Nat.le_refl _, ?_, fun _ => rfl, fun h => by cases h⟩
      rw [qc, qofN, gtr_false] at hz; simp only [nc] at *; omega
    · refine ⟨300, ?_, Nat.le_refl _, (fun h => by cases h), fun _ => rfl⟩
      rw [qc, qofN, gtr_true] at hz; simp only [nc] at *; omega
  obtain ⟨L, hLl, hL3, hLf, hLt⟩ := hgoal
  have hu := qc
  cases z
  all_goals first
    | (have hL := hLf rfl
       clear hLf hLt hz
       subst hL
       cbv
       refine ⟨fun _ => rfl, ?_⟩)
    | (have hL := hLt rfl
       clear hLf hLt hz
       cbv
       refine ⟨⟨by decide, by omega⟩, fun _ => rfl, ?_⟩
       rw [← hL]
       clear hL)
  all_goals
    refine WX.cv (Cv.nilB 1 0 5 .u8 (by rfl) (by cbv; exact ⟨fun _ => rfl, trivial⟩) (Cv.here ?_))
    cbv
    refine loop_fam (α := Int × Nat × Nat × Int × List Int) [5, 20, 21, 22, 23, 24, 25, 26, 27, 28, 29] [2]
      (fun (k, c, n1, m, l) => [(19, .int .i64 k)]) (fun (k, c, n1, m, l) => [(1, .one 41 [.slice 2 .z 1 n1 c, .int .i64 m]), (2, .buf 5 .u8 l c)])
      (fun (k, c, n1, m, l) => ∃ i : Nat, k = i ∧ i ≤ L ∧ l = pack (allBits xs ns i) ∧ n1 = l.length ∧ m = (allBits xs ns i).length) (fun (k, _) => L - k.toNat) hw hm ?_ ?_
    · refine Cv.genAt [19] [1] (Cv.fold [5, 20, 21, 22, 23, 24, 25, 26, 27, 28, 29] 3 [2] (by exact Nat.le_refl _) (by exact Nat.le_refl _) (by rfl) (by cbv) ?_)
      intro js
      refine ⟨(_, _, _, _, _), ?_, js, rfl⟩
      exact ⟨0, rfl, by omega, (show pack [] = [] by decide).symm, rfl, rfl⟩
    · rintro ⟨k, c, n1, m, l⟩ js ⟨i, hk, hi, hl, hn1, hm1⟩
      have hbl := allBits_length xs ns i
      have hput' := hput i c (by omega)
      simp only [nc] at hm1 hk hput'
      rw [← hl, ← hn1, ← hm1] at hput'
      generalize hl2 : pack (putBits (allBits xs ns i) (xs i) (ns i)) = l2 at hput'
      generalize hn2 : l2.length = n2 at hput'
      generalize hm2 : ((putBits (allBits xs ns i) (xs i) (ns i)).length : Int) = m2 at hput'
      generalize he2 : putErr (ns i) = e2 at hput'
      have hclose' := hclose i c (by omega)
      have hnew' := fun c => hnew i c (by omega)
      simp only [nc] at hclose' hnew'
      rw [← hl, ← hn1, ← hm1] at hclose'
      simp only [← hm1] at hnew'
      generalize hl3 : pack (allBits xs ns i ++ [1]) = l3 at hclose' hnew'
      generalize hn3 : l3.length = n3 at hclose' hnew'
      cbv
      split
      · rename_i hlt
        have hlt : i < L := by rw [qc, qofN, lss_true] at hlt; simp only [nc] at *; omega
        have hin : 0 ≤ k ∧ k < (L : Int) := by simp only [nc] at *; omega
        have hti : vtoN k = i := by simp only [nc] at *; simp only [qtoN]; omega
        have hin2 : vaddN 0 i = i := by simp only [qaddN, Nat.zero_add]
        cbv
        rw [hti, hin2]
        cbv
        refine ⟨⟨hin⟩, ⟨by omega⟩, ⟨by omega⟩, ⟨by omega⟩, fun _ => rfl, ?_⟩
        refine call_con (ρ := [(1, .z), (2, .z)]) hput' ⟨by rfl, by rfl, by rfl, by cbv; exact ⟨fun _ => rfl, trivial⟩⟩ ?_
        rintro v H R js ⟨rfl, rfl, c', rfl⟩
        cbv
        refine ⟨fun _ => rfl, ?_⟩
        refine Cv.fold [5, 20, 21, 22, 23, 24, 25, 26, 27, 28, 29] 3 [2] (by exact Nat.le_refl _) (by exact Nat.le_succ _) (by rfl) (by cbv) ?_
        intro js
        refine ⟨(_, _, _, _, _), ?_, js, rfl⟩
        have hk1 : vb .add .i64 k 1 = ((i + 1 : Nat) : Int) := by simp only [nc] at *; rw [qb, add_i64 (by omega) (by omega)]; omega
        exact ⟨⟨i + 1, hk1, hlt, hl2.symm, hn2.symm, hm2.symm⟩, by show L - (vb .add .i64 k 1).toNat < L - k.toNat; rw [hk1, hk]; simp only [nc] at *; omega⟩
      · rename_i hge
        have hiL : i = L := by rw [qc, qofN, lss_false] at hge; simp only [nc] at *; omega
        subst hiL
        cbv
        refine call_con (ρ := [(1, .z), (2, .z)]) hclose' ⟨by rfl, by rfl, by rfl, by cbv; exact ⟨fun _ => rfl, trivial⟩⟩ ?_
        rintro v H R js ⟨rfl, c', rfl, rfl⟩
        cbv
        refine ⟨fun _ => rfl, ?_⟩
        refine call_con (ρ := [(2, .z)]) (hnew' c') ⟨by rfl, by rfl, by rfl, by cbv; exact ⟨fun _ => rfl, view_refl _, trivial⟩⟩ ?_
        rintro v H R js ⟨rfl, rfl, c4, rfl⟩
        cbv
        have hb3 : ∀ b ∈ allBits xs ns i ++ [1], isBit b := fun b hm => (List.mem_append.1 hm).elim (allBits_bit xs ns i b) (fun e => .inr (by simpa using e))
        have hby3 : ∀ x ∈ l3, isByte x := by rw [← hl3]; exact pack_byte _ hb3
        have hl3n : l3.length = (allBits xs ns i).length / 8 + 1 := by rw [← hl3, pack_length]; simp; omega
        refine ⟨fun _ => rfl, ?_⟩
        refine loop_fam (α := Int × Int) [9, 41, 42, 43, 44, 45, 46, 47, 48, 49, 50, 51, 52, 53, 54, 55, 56, 57, 58, 59, 60, 61, 62, 63, 64, 65, 66, 67, 68, 69, 70, 71] [3, 2]
          (fun (k, p) => [(8, .int .i64 k)]) (fun (k, p) => [(4, .one 74 [.slice 3 .z 1 n3 c4, .int .i64 p])])
          (fun (k, p) => ∃ j : Nat, k = (j : Int) - 1 ∧ j ≤ i ∧ p = (allBits xs ns j).length) (fun (k, _) => (k + 1).toNat) hw hm ?_ ?_
        · refine Cv.fold [9, 41, 42, 43, 44, 45, 46, 47, 48, 49, 50, 51, 52, 53, 54, 55, 56, 57, 58, 59, 60, 61, 62, 63, 64, 65, 66, 67, 68, 69, 70, 71] 5 [3, 2] (by exact Nat.le_refl _) (by exact Nat.le_refl _) (by rfl) (by cbv) ?_
          intro js
          refine ⟨(_, _), ?_, js, rfl⟩
          exact ⟨i, by simp only [qb, qofN]; simp only [nc] at *; rw [sub_i64 (by omega) (by omega)], Nat.le_refl _, hm1⟩
        · rintro ⟨k2, p⟩ js ⟨j, hk2, hj, hp⟩
          cbv
          split
          · rename_i hge2
            have hge2 : 1 ≤ j := by rw [qc, geq_true] at hge2; simp only [nc] at *; omega
            obtain ⟨i', rfl⟩ : ∃ i', j = i' + 1 := ⟨j - 1, by omega⟩
            have hin : 0 ≤ k2 ∧ k2 < (i : Int) := by simp only [nc] at *; omega
            have hti : vtoN k2 = i' := by simp only [nc] at *; simp only [qtoN]; omega
            have hin2 : vaddN 0 i' = i' := by simp only [qaddN, Nat.zero_add]
            cbv
            rw [hti, hin2]
            cbv
            refine ⟨⟨hin⟩, ⟨by omega⟩, ⟨by omega⟩, ⟨by omega⟩, fun _ => rfl, ?_⟩
            have hbi := allBits_length xs ns i'
            have hbi1 := allBits_length xs ns (i' + 1)
            have hk3 : vb .sub .i64 k2 1 = (i' : Int) - 1 := by simp only [nc] at *; rw [qb, sub_i64 (by omega) (by omega)]; omega
            have hmu : (vb .sub .i64 k2 1 + 1).toNat < (k2 + 1).toNat := by rw [hk3]; simp only [nc] at *; omega
            have hsk : ¬ (0 ≤ ns i' ∧ ns i' ≤ 56) → allBits xs ns (i' + 1) = allBits xs ns i' := fun h => by rw [allBits, putBits, if_neg h]
            generalize h1 : vc .geq (ns i') 0 = z1
            cases z1
            · cbv
              have hsk := hsk (fun h => by rw [qc, geq_false] at h1; exact h1 h.1)
              refine Cv.fold [9, 41, 42, 43, 44, 45, 46, 47, 48, 49, 50, 51, 52, 53, 54, 55, 56, 57, 58, 59, 60, 61, 62, 63, 64, 65, 66, 67, 68, 69, 70, 71] 5 [3, 2] (by exact Nat.le_refl _) (by exact Nat.le_succ _) (by rfl) (by cbv) ?_
              intro js
              refine ⟨(_, _), ?_, js, rfl⟩
              exact ⟨⟨i', hk3, by omega, by rw [hp, hsk]⟩, hmu⟩
            · cbv
              generalize h2 : vc .leq (ns i') 56 = z2
              cases z2
              · cbv
                have hsk := hsk (fun h => by rw [qc, leq_false] at h2; exact h2 h.2)
                refine Cv.fold [9, 41, 42, 43, 44, 45, 46, 47, 48, 49, 50, 51, 52, 53, 54, 55, 56, 57, 58, 59, 60, 61, 62, 63, 64, 65, 66, 67, 68, 69, 70, 71] 5 [3, 2] (by exact Nat.le_refl _) (by exact Nat.le_succ _) (by rfl) (by cbv) ?_
                intro js
                refine ⟨(_, _), ?_, js, rfl⟩
                exact ⟨⟨i', hk3, by omega, by rw [hp, hsk]⟩, hmu⟩
              · have h1 : 0 ≤ ns i' := by rw [qc, geq_true] at h1; exact h1
                have h2 : ns i' ≤ 56 := by rw [qc, leq_true] at h2; exact h2
                have hst : allBits xs ns (i' + 1) = allBits xs ns i' ++ bitsN (xs i') (ns i').toNat := by rw [allBits, putBits, if_pos ⟨h1, h2⟩]
                have hwn : vw .u64 (ns i') = ns i' := by simp only [qw]; exact wrap_u64 h1 (by omega)
                obtain ⟨rest, hrest⟩ := allBits_split xs ns (i' + 1) i hj
                have hlen2 : (allBits xs ns (i' + 1)).length ≤ (allBits xs ns i).length := by rw [hrest, List.length_append]; omega
                have hcl : clampN (ns i') = (ns i').toNat := by unfold clampN; (repeat' split) <;> omega
                have hbits' := hbits l3 c4 p (ns i') hby3 (by rw [hp, hl3n]; simp only [nc] at *; omega) (by omega)
                have hV : rd l3 p (clampN (ns i')) = xs i' % 2 ^ (ns i').toNat := by
                  rw [hcl, ← hl3, hp, hst]
                  have e : allBits xs ns i ++ [1] = allBits xs ns i' ++ bitsN (xs i') (ns i').toNat ++ (rest ++ [1]) := by rw [hrest, hst]; simp
                  rw [e]
                  exact rd_put _ _ _ _ (hx i').1 (by rw [← e]; exact hb3)
                have hP : floorP (p - clampN (ns i')) = (allBits xs ns i').length := by
                  rw [hcl, hp, hst]; unfold floorP; rw [if_neg (by simp only [nc, List.length_append, bitsN_length]; omega)]; simp only [nc, List.length_append, bitsN_length]; omega
                simp only [nc] at hbits' hP hV
                rw [hV, hP, hn3] at hbits'
                have hcmp : vc .neq (xs i' % 2 ^ (ns i').toNat) (vb .and .u64 (xs i') (vb .sub .u64 (vb .shl .u64 1 (vw .u64 (ns i'))) 1)) = false := by
                  have hpp := pow_le_56 (show (ns i').toNat ≤ 56 by omega)
                  have hp0 : (0 : Int) < 2 ^ (ns i').toNat := Int.pow_pos (by decide)
                  have e1 : vb .shl .u64 1 (ns i') = 2 ^ (ns i').toNat := by
                    rw [qb, shl_u rfl (by decide) (by show ns i' ≤ ((64 : Nat) : Int); omega) (by show _ < (2 : Int) ^ 64; omega)]; omega
                  have e2 : vb .sub .u64 (2 ^ (ns i').toNat) 1 = 2 ^ (ns i').toNat - 1 := by
                    rw [qb]; exact wrap_u64 (by omega) (by omega)
                  rw [hwn, e1, e2, qc, qb, and_mask (k := .u64) rfl _ (by show (ns i').toNat ≤ 64; omega) (hx i').1 (hx i').2, neq_false]
                  simp
                generalize hVv : xs i' % 2 ^ (ns i').toNat = V at *
                generalize hp2 : ((allBits xs ns i').length : Int) = p2 at *
                cbv
                refine ⟨⟨by rw [hwn]; exact h1⟩, ?_⟩
                refine call_con (ρ := [(4, .z), (3, .z)]) hbits' ⟨by rfl, by rfl, by rfl, by cbv; exact ⟨fun _ => rfl, view_refl _, trivial⟩⟩ ?_
                rintro v H R js ⟨rfl, rfl, rfl⟩
                cbv
                refine ⟨fun _ => rfl, ?_⟩
                rw [hcmp]
                cbv
                refine Cv.fold [9, 41, 42, 43, 44, 45, 46, 47, 48, 49, 50, 51, 52, 53, 54, 55, 56, 57, 58, 59, 60, 61, 62, 63, 64, 65, 66, 67, 68, 69, 70, 71] 5 [3, 2] (by exact Nat.le_refl _) (by exact Nat.le_succ _) (by rfl) (by cbv) ?_
                intro js
                refine ⟨(_, _), ?_, js, rfl⟩
                exact ⟨⟨i', hk3, by omega, hp2.symm⟩, hmu⟩
          · rename_i hge2
            have hj0 : j = 0 := by rw [qc, geq_false] at hge2; simp only [nc] at *; omega
            subst hj0
            have hleft' := hleft l3 n3 c4 p
            have hp0 : p = 0 := hp
            have hcp : vc .eql p 0 = true := by rw [hp0, qc, eql_true]
            cbv
            refine call_con (ρ := [(4, .z), (3, .z)]) hleft' ⟨by rfl, by rfl, by rfl, by cbv; exact ⟨fun _ => rfl, view_refl _, trivial⟩⟩ ?_
            rintro v H R js ⟨rfl, rfl, rfl⟩
            cbv
            refine ⟨fun _ => rfl, ?_⟩
            rw [hcp]
            cbv
            refine call_con (ρ := []) hwakes ⟨by rfl, by rfl, by rfl, by cbv; exact ⟨fun _ => rfl, trivial⟩⟩ ?_
            rintro v H R js ⟨rfl, rfl, rfl⟩
            cbv
            exact ⟨fun _ => rfl, trivial⟩
theorem own : ownKnob Try.prog.godebug = none := by kernel_rfl
set_option maxRecDepth 100000 in
theorem lifted (os : Os) (started : os.Started) (H : Type) (enc : TypeId × Value → H) :
    ReturnsInHanded {} Try.checked os 5 .any (Rows.tailBackSpec.pre6 enc Try.prog Try.f5 Rows.tailBackRow.domain false) (Rows.tailBackSpec.post enc Try.prog Try.f5 false true false false) := by
  refine returnsInHanded_of_change (C := Try.checked) own started (by kernel_rfl) Try.func5
    (ChangeSpec.witness6 (enc := enc) (C := Try.checked) false ⟨#[], #[.slice none 0 0], []⟩ 8 (by kernel_rfl) (by kernel_rfl) (by kernel_rfl) (by kernel_rfl)) ?_
  intro W base args ds gs before hval0 hW hcnd _
  have hval : ∀ (j : Nat) t v, Try.f5.params[j]? = some t → args[j]? = some v → Value.okWide Try.prog W .any base t v := hval0
  have hW' := hW
  obtain ⟨p, q, hA0, hV, rfl, hfz, hnd⟩ := hW
  have hA : DataW.TrodAll enc Try.prog W 0 (fun _ => true) true Try.f5.params.toList args.toList ds p := hA0
  rw [Try.params5] at hA hval
  obtain ⟨v0, vs0, d0, ds0, p0, q0, hargs0, rfl, rfl, h0, r0⟩ := trodAll_cons hA
  obtain ⟨rfl, rfl, rfl⟩ := trodAll_nil r0
  obtain rfl : args = #[v0] := by cases args; simp_all
  obtain ⟨rfl, rfl⟩ := trodVars_none hV
  obtain ⟨s0, xs0, ns0, len0, cap0, rfl, lt0, ho0, hx0, hn0, hc0, hm0⟩ := arg_pairs (P := Try.prog) Try.underlying38 Try.underlying46 (by kernel_rfl) (by kernel_rfl) (by kernel_rfl) (by kernel_rfl) (by kernel_rfl) Try.underlying32 Try.underlying3 (hval 0 38 v0 rfl rfl) h0
  refine (con_below (law_con xs0 ns0 len0 cap0 hc0 (fun i => wf_u64 (hx0 i))) (by intro B hB; simp at hB; subst hB; rfl) (ok_args [(s0, .roA 2 len0 (fun i => [.int .u64 (xs0 i), .int .i64 (ns0 i)]))] (by intro e he; simp at he; subst he; exact ⟨lt0, rfl, ho0⟩))).mono fun e W' ⟨he, hb⟩ => ⟨_, he, ?_⟩
  exact law_post hW' rfl (by kernel_rfl) Try.underlying4 (by kernel_rfl) (by kernel_rfl) rfl rfl rfl hb

theorem over : Rows.tailBackRow.holds Try.pinned (OpenSpec.ofChange Rows.tailBackSpec) :=
  OpenClaim.holds_of_wide 5 Try.f5 rfl rfl rfl rfl rfl rfl rfl ⟨rfl, rfl, rfl, rfl, rfl⟩ rfl rfl rfl rfl rfl (by kernel_rfl) Try.func5 (by kernel_rfl)
    (of_decide_eq_true (by kernel_rfl)) (by unfold Func.isWrapper; first | (rw [if_pos (by decide +kernel)]; kernel_rfl) | (rw [if_neg (by decide +kernel)]; exact ⟨rfl, rfl⟩))
    (fun os started H enc _ => lifted os started H enc)

theorem proved : Rows.TailBackSaid :=
  over
#print axioms proved
end Go.Proofs.Ytgbnngjmjimhiaa.tailBack
