/-
  For all bytes and sizes, balerlaw19.SymbolsRead returns true and leaves its arguments as they were. No condition.
-/
import Derived.Test.YtkkddgdcmdnnmaaA2
import Derived.Test.YtkkddgdcmdnnmaaA4
import Derived.Test.YtkkddgdcmdnnmaaA6
import Derived.Test.YtkkddgdcmdnnmaaED
namespace Go.Proofs.Ytkkddgdcmdnnmaa.symbolsRead
open Go Go.Sx Go.ChangeShapes Go.WideShapes Go.ChangeAt Go.RowKit Go.Deep
set_option linter.unusedVariables false
theorem wf_u8 {x : Int} (h : (Lit.int .u8 x).wf = true) : isU8 x := by
  simp [Lit.wf, IntKind.min, IntKind.max, IntKind.signed, IntKind.bits] at h
  unfold isU8
  omega
theorem isU8_byte {b : List Int} (hb : ∀ c ∈ b, isU8 c) : ∀ x ∈ b, isByte x := fun x hx => by
  have := hb x hx
  unfold isU8 at this
  unfold isByte
  omega
set_option maxHeartbeats 40000000 in
set_option maxRecDepth 10000 in
theorem law_con (b : List Int) (cap : Nat) (size : Int) (hb8 : ∀ c ∈ b, isU8 c) (hbl0 : b.length ≤ 140737488355328) :
    Con Try.prog 4 [.slice 0 .z 1 b.length cap, .int .i64 size] [.ro .u8 b] (fun v H R => v = .bool true ∧ H = [.ro .u8 b] ∧ R = []) := by
  have hby := isU8_byte hb8
  have hl : b.length ≤ 2 ^ 50 := by omega
  have hwakes := wakes14_con
  have c1 := rnew_con b cap hbl0
  have c2 := fun cap9 => readX7_con b 0 cap9 0 0 0 size hby hl (RS.start b) (Nat.zero_le _)
  have c3 := fun cap9 => refread_con b cap9 0 0 size hby hl (Nat.zero_le _) rfl
  have cn1 := fun (acc hv ai one : Int) (cap9 : Nat) => symnext_one b b.length cap9 acc hv ai one
  have cn2 := fun (L : List Int) pos cap9 cp acc hv ai h hp hlu h5 h0 => symnext_len L b pos cap9 cp acc hv ai 0 hby hl h hp hlu h5 h0
  have rn1 := fun (pI one : Int) (cap9 : Nat) => refnext_one b b.length cap9 pI one
  have rn2 := fun (L : List Int) cap9 cp pos pI hp hpI hR h0 hm => refnext_len L b cap9 cp L.length pos pI 0 hby hl hp hpI hR h0 hm
  have lf1 := fun pos cap9 acc hv ai lf h hlf => rleft18_con b pos cap9 acc hv ai lf hl h hlf
  have lf2 := fun cap9 pos pI lf hp hpI hlf => refleft19_con b cap9 pos pI lf hl hp hpI hlf
  have hsn := same_nil
  have hsl := same_len
  obtain ⟨X, hX⟩ : ∃ X, X = (if 1 ≤ size ∧ size ≤ 1024 then readR b size 0 else .error 2) := ⟨_, rfl⟩
  have hcode : ∀ c q, X = .ok (c, q) → CodeOk size c ∧ q ≤ 8 * b.length ∧ 1 ≤ size ∧ size ≤ 1024 := fun c q h => by
    rw [hX] at h
    split at h
    · rename_i hs
      have := readR_ok hs (Nat.zero_le _) h
      exact ⟨this.1, this.2, hs.1, hs.2⟩
    · cases h
  have hdet := @Dec.det
  have hrng := @Dec.ok_range
  rw [← hX] at c2 c3
  clear hX
  refine con_gen (con_cut 1 (by simp) (con_drop (con_walk hmix fn4 ?_)))
  intro vb vc vw vtoN vofN vaddN vsubN vmaxI vminI vcutN vgd vst vln vrep vsub vonto vsplice vstrEq vbyteV vnotB veqB hw qb qc qw qtoN qofN qaddN qsubN qmaxI qminI qcutN qgd qst qln qrep qsub qonto qsplice qstrEq qbyteV qnotB qeqB
  have hm := hmix; generalize Try.prog = P at *
  obtain ⟨bl, hbl⟩ : ∃ bl, bl = b.length := ⟨_, rfl⟩
  unfold ReadPost at c2
  unfold RefCode at c3
  simp only [← hbl] at c1 c2 c3 cn1 cn2 rn1 rn2 lf1 lf2 hcode ⊢
  have e00 : vc .neq 0 0 = false := by rw [qc]; rfl
  have hnt : vnotB true = false := by rw [qnotB]; rfl
  cbv
  refine call_con (ρ := [(0, .z)]) c1 ⟨by rfl, by rfl, by rfl, by cbv; exact ⟨view_refl _, trivial⟩⟩ ?_
  rintro v H R js ⟨rfl, rfl, cap9, rfl⟩
  have c2 := c2 cap9
  cbv
  refine call_con (ρ := [(4, .z), (3, .z), (2, .z), (1, .z)]) c2 ⟨by rfl, by rfl, by rfl, by cbv; exact ⟨view_refl _, trivial⟩⟩ ?_
  have c3 := c3 cap
  rintro v H R js2 ⟨rfl, acc, hv, ai, ⟨e, hXe, rfl, rfl⟩ | ⟨x, q, hXe, hRS, ⟨n, rfl, rfl, rfl⟩ | ⟨L, cp, cq, rfl, rfl, rfl⟩⟩⟩
  · cbv
    refine call_con (ρ := [(5, .z), (0, .z)]) c3 ⟨by rfl, by rfl, by rfl, by cbv; exact ⟨view_refl _, trivial⟩⟩ ?_
    rintro v H R js3 ⟨rfl, q2, qI, hq, hq8, ⟨n, hX2, rfl, rfl⟩ | ⟨L, cp, hX2, rfl, rfl⟩ | ⟨e2, hX2, he0, he1, rfl, rfl⟩⟩
    · rw [hXe] at hX2; cases hX2
    · rw [hXe] at hX2; cases hX2
    rw [hXe] at hX2
    have he2 : e = e2 := by cases hX2; rfl
    subst he2
    have hsn0 := hsn 0
    have enn : vc .neq e e = false := by rw [qc, neq_false]; exact fun h => h rfl
    have en0 : vc .neq e 0 = true := by rw [qc, neq_true]; omega
    have e000 : vc .eql 0 0 = true := by rw [qc]; rfl
    cbv
    rw [enn]
    cbv
    refine call_con (ρ := []) hsn0 ⟨by rfl, by rfl, by rfl, by cbv⟩ ?_
    rintro v H R js4 ⟨rfl, rfl, rfl⟩
    cbv
    rw [hnt]
    cbv
    rw [en0]
    cbv
    refine call_con (ρ := []) hwakes ⟨by rfl, by rfl, by rfl, by cbv⟩ ?_
    rintro v H R js5 ⟨rfl, rfl, rfl⟩
    cbv
  · cbv
    refine call_con (ρ := [(5, .z), (0, .z)]) c3 ⟨by rfl, by rfl, by rfl, by cbv; exact ⟨view_refl _, trivial⟩⟩ ?_
    rintro v H R js3 ⟨rfl, q2, qI, hq, hq8, ⟨n2, hX2, rfl, rfl⟩ | ⟨L, cp, hX2, rfl, rfl⟩ | ⟨e2, hX2, he0, he1, rfl, rfl⟩⟩
    rotate_left
    · rw [hXe] at hX2; cases hX2
    · rw [hXe] at hX2; cases hX2
    rw [hXe] at hX2
    have he2 : n = n2 ∧ q = q2 := by cases hX2; exact ⟨rfl, rfl⟩
    obtain ⟨rfl, rfl⟩ := he2
    have hsn0 := hsn n
    have enn : ∀ s, vc .neq s s = false := fun s => by rw [qc, neq_false]; exact fun h => h rfl
    cbv
    rw [e00]
    cbv
    refine call_con (ρ := []) hsn0 ⟨by rfl, by rfl, by rfl, by cbv⟩ ?_
    rintro v H R js4 ⟨rfl, rfl, rfl⟩
    cbv
    rw [hnt]
    cbv
    rw [e00]
    cbv
    have hqq : qI = (q : Int) := hq
    refine loop_fam (α := Int × Nat × Int × Int × Int × Int) ([11, 12, 13, 14] ++ [51, 52, 53, 54, 55, 56, 57, 58, 59, 60, 61, 62, 63, 64, 65, 66, 67, 68, 69, 70, 71, 72, 73, 74, 75, 76, 77, 78, 79]) []
      (fun (k, p, acc, hv, ai, pI) => [(50, .int .i64 k)])
      (fun (k, p, acc, hv, ai, pI) => [(4, .one 81 [.fn 39 [.ptr 3 .z 1 0, .ptr 2 .z 1 0], .int .u64 acc, .int .i64 hv, .fn 40 [.ptr 2 .z 1 0, .ptr 3 .z 1 0]]), (3, .one 3 [.int .i64 ai]), (5, .one 41 [.slice 0 .z 1 bl cap, .int .i64 pI])])
      (fun (k, p, acc, hv, ai, pI) => ∃ i : Nat, k = i ∧ i ≤ 60 ∧ RS b p acc hv ai ∧ p ≤ 8 * bl ∧ pI = p)
      (fun (k, p, acc, hv, ai, pI) => 60 - k.toNat) hw hm ?_ ?_
    · refine Cv.genAt [50] [5, 3, 4] (Cv.fold ([11, 12, 13, 14] ++ [51, 52, 53, 54, 55, 56, 57, 58, 59, 60, 61, 62, 63, 64, 65, 66, 67, 68, 69, 70, 71, 72, 73, 74, 75, 76, 77, 78, 79]) 8 [] (by exact Nat.le_refl _) (by exact Nat.le_of_ble_eq_true rfl) (by rfl) (by cbv) ?_)
      intro js
      refine ⟨(_, q, _, _, _, _), ?_, js, rfl⟩
      exact ⟨0, rfl, by decide, hRS, hq8, hqq⟩
    rintro ⟨k, p, acc, hv, ai, pI⟩ js9 ⟨i, hk, hi, hRSp, hp8, hpI⟩
    have hk : k = (i : Int) := hk
    obtain ⟨lf, hlf⟩ : ∃ lf : Int, lf = 8 * (bl : Int) - (p : Int) := ⟨_, rfl⟩
    have c8 := cn1 acc hv ai n cap9
    have c17 := rn1 pI n cap
    have c18 := lf1 p cap9 acc hv ai lf hRSp hlf
    have c19 := lf2 cap p pI lf hp8 hpI hlf
    have hcA : i < 60 → vc .lss k 60 = true := fun h => by rw [qc, lss_true]; omega
    have hcB : ¬ i < 60 → vc .lss k 60 = false := fun h => by rw [qc, lss_false]; omega
    obtain ⟨kn, hkn⟩ : ∃ kn : Int, kn = ((i + 1 : Nat) : Int) := ⟨_, rfl⟩
    have ek : vb .add .i64 k 1 = kn := by rw [qb, add_i64 (by omega) (by omega)]; omega
    have hmu : i < 60 → 60 - kn.toNat < 60 - k.toNat := fun h => by omega
    cbv
    by_cases hlt : i < 60
    rotate_left
    · rw [hcB hlt]
      cbv
      refine call_con (ρ := []) hwakes ⟨by rfl, by rfl, by rfl, by cbv⟩ ?_
      rintro v H R js5 ⟨rfl, rfl, rfl⟩
      cbv
    have hmu := hmu hlt
    rw [hcA hlt]
    cbv
    refine call_con (ρ := [(4, .z), (3, .z), (2, .z), (1, .z)]) c8 ⟨by rfl, by rfl, by rfl, by cbv; exact ⟨view_refl _, trivial⟩⟩ ?_
    rintro v H R js5 ⟨rfl, rfl, rfl⟩
    cbv
    refine call_con (ρ := [(5, .z), (0, .z)]) c17 ⟨by rfl, by rfl, by rfl, by cbv; exact ⟨view_refl _, trivial⟩⟩ ?_
    rintro v H R js6 ⟨rfl, rfl, rfl⟩
    cbv
    rw [enn]
    cbv
    rw [e00]
    cbv
    rw [e00]
    cbv
    refine call_con (ρ := [(4, .z), (3, .z), (2, .z), (1, .z)]) c18 ⟨by rfl, by rfl, by rfl, by cbv; exact ⟨view_refl _, trivial⟩⟩ ?_
    rintro v H R js7 ⟨rfl, rfl, rfl⟩
    cbv
    refine call_con (ρ := [(5, .z), (0, .z)]) c19 ⟨by rfl, by rfl, by rfl, by cbv; exact ⟨view_refl _, trivial⟩⟩ ?_
    rintro v H R js8 ⟨rfl, rfl, rfl⟩
    cbv
    rw [enn]
    cbv
    rw [ek]
    refine Cv.fold ([11, 12, 13, 14] ++ [51, 52, 53, 54, 55, 56, 57, 58, 59, 60, 61, 62, 63, 64, 65, 66, 67, 68, 69, 70, 71, 72, 73, 74, 75, 76, 77, 78, 79]) 8 [] (by exact Nat.le_refl _) (by exact Nat.le_of_ble_eq_true rfl) (by rfl) (by cbv) ?_
    intro js
    refine ⟨(_, p, _, _, _, _), ?_, js, rfl⟩
    exact ⟨⟨i + 1, hkn, hlt, hRSp, hp8, hpI⟩, hmu⟩
  · obtain ⟨ll, hll⟩ : ∃ ll, ll = L.length := ⟨_, rfl⟩
    rw [← hll]
    cbv
    refine call_con (ρ := [(5, .z), (0, .z)]) c3 ⟨by rfl, by rfl, by rfl, by cbv; exact ⟨view_refl _, trivial⟩⟩ ?_
    rintro v H R js3 ⟨rfl, q2, qI, hq, hq8, ⟨n2, hX2, rfl, rfl⟩ | ⟨L2, cp2, hX2, rfl, rfl⟩ | ⟨e2, hX2, he0, he1, rfl, rfl⟩⟩
    · rw [hXe] at hX2; cases hX2
    rotate_left
    · rw [hXe] at hX2; cases hX2
    rw [hXe] at hX2
    have he2 : L = L2 ∧ q = q2 := by cases hX2; exact ⟨rfl, rfl⟩
    obtain ⟨rfl, rfl⟩ := he2
    obtain ⟨⟨hLs, h5, hlu, hRt⟩, _, hs1, hs2⟩ := hcode _ _ hXe
    have hL0 : 0 < L.length := by omega
    have hLm : L.length ≤ 1024 := by omega
    have hsn0 := hsl L (WL L) cp cp2 hL0 hLm
    have cn2 := fun pos acc hv ai h hp => cn2 L pos cap9 cp acc hv ai h hp hlu h5 hL0
    have rn2 := fun pos pI hp hpI => rn2 L cap cp2 pos pI hp hpI hRt hL0 hLm
    have hdet := fun p s e s' e' q q' => @hdet L b p s e s' e' q q'
    have hdq : ∀ p s e q, Dec L b p s e q → p ≤ 8 * bl → q ≤ 8 * bl := fun p s e q h hp => by
      rw [hbl]
      rcases h with ⟨_, _, _, _, h, _, _, _, _, _, _, _, rfl⟩ | ⟨_, _, h, _, _, _, rfl⟩ <;> omega
    have hL0' : vc .gtr 0 0 = false := by rw [qc]; rfl
    generalize WL L = W at *
    rw [← hll] at hsn0
    simp only [← hll] at cn2 rn2 ⊢
    have enn : ∀ s, vc .neq s s = false := fun s => by rw [qc, neq_false]; exact fun h => h rfl
    generalize Dec L b = D at *
    clear hrng hcode hXe hX2 c2 c3 hsn hsl c1
    cbv
    rw [e00]
    cbv
    refine call_con (ρ := [(6, .z), (8, .z), (9, .z)]) hsn0 ⟨by rfl, by rfl, by rfl, by cbv; exact ⟨view_refl _, view_refl _, view_refl _, trivial⟩⟩ ?_
    rintro v H R js4 ⟨rfl, rfl, rfl⟩
    cbv
    rw [hnt]
    cbv
    rw [e00]
    cbv
    have hqq : qI = (q : Int) := hq
    refine loop_fam (α := Int × Nat × Int × Int × Int × Int) ([11, 12, 13, 14] ++ [51, 52, 53, 54, 55, 56, 57, 58, 59, 60, 61, 62, 63, 64, 65, 66, 67, 68, 69, 70, 71, 72, 73, 74, 75, 76, 77, 78, 79]) []
      (fun (k, p, acc, hv, ai, pI) => [(50, .int .i64 k)])
      (fun (k, p, acc, hv, ai, pI) => [(4, .one 81 [.fn 39 [.ptr 3 .z 1 0, .ptr 2 .z 1 0], .int .u64 acc, .int .i64 hv, .fn 40 [.ptr 2 .z 1 0, .ptr 3 .z 1 0]]), (3, .one 3 [.int .i64 ai]), (5, .one 41 [.slice 0 .z 1 bl cap, .int .i64 pI])])
      (fun (k, p, acc, hv, ai, pI) => ∃ i : Nat, k = i ∧ i ≤ 60 ∧ RS b p acc hv ai ∧ p ≤ 8 * bl ∧ pI = p)
      (fun (k, p, acc, hv, ai, pI) => 60 - k.toNat) hw hm ?_ ?_
    · refine Cv.genAt [50] [5, 3, 4] (Cv.fold ([11, 12, 13, 14] ++ [51, 52, 53, 54, 55, 56, 57, 58, 59, 60, 61, 62, 63, 64, 65, 66, 67, 68, 69, 70, 71, 72, 73, 74, 75, 76, 77, 78, 79]) 11 [] (by exact Nat.le_refl _) (by exact Nat.le_of_ble_eq_true rfl) (by rfl) (by cbv) ?_)
      intro js
      refine ⟨(_, q, _, _, _, _), ?_, js, rfl⟩
      exact ⟨0, rfl, by decide, hRS, hq8, hqq⟩
    rintro ⟨k, p, acc, hv, ai, pI⟩ js9 ⟨i, hk, hi, hRSp, hp8, hpI⟩
    have hk : k = (i : Int) := hk
    obtain ⟨lf, hlf⟩ : ∃ lf : Int, lf = 8 * (bl : Int) - (p : Int) := ⟨_, rfl⟩
    have c8 := cn2 p acc hv ai hRSp hp8
    have c17 := rn2 p pI hp8 hpI
    have hcA : i < 60 → vc .lss k 60 = true := fun h => by rw [qc, lss_true]; omega
    have hcB : ¬ i < 60 → vc .lss k 60 = false := fun h => by rw [qc, lss_false]; omega
    obtain ⟨kn, hkn⟩ : ∃ kn : Int, kn = ((i + 1 : Nat) : Int) := ⟨_, rfl⟩
    have ek : vb .add .i64 k 1 = kn := by rw [qb, add_i64 (by omega) (by omega)]; omega
    have hmu : i < 60 → 60 - kn.toNat < 60 - k.toNat := fun h => by omega
    cbv
    by_cases hlt : i < 60
    rotate_left
    · rw [hcB hlt]
      cbv
      refine call_con (ρ := []) hwakes ⟨by rfl, by rfl, by rfl, by cbv⟩ ?_
      rintro v H R js5 ⟨rfl, rfl, rfl⟩
      cbv
    have hmu := hmu hlt
    rw [hcA hlt]
    cbv
    refine call_con (ρ := [(4, .z), (3, .z), (2, .z), (1, .z), (6, .z)]) c8 ⟨by rfl, by rfl, by rfl, by cbv; exact ⟨view_refl _, view_refl _, trivial⟩⟩ ?_
    rintro v H R js5 ⟨acc2, hv2, ai2, s, e, q3, rfl, hRS2, hD1, rfl, rfl⟩
    cbv
    refine call_con (ρ := [(5, .z), (0, .z), (8, .z), (9, .z)]) c17 ⟨by rfl, by rfl, by rfl, by cbv; exact ⟨view_refl _, view_refl _, view_refl _, trivial⟩⟩ ?_
    rintro v H R js6 ⟨s2, e2, q4, qI4, rfl, hq4, hD2, rfl, rfl⟩
    obtain ⟨rfl, rfl, rfl⟩ := hdet _ _ _ _ _ _ _ hD1 hD2
    have hq8' := hdq _ _ _ _ hD1 hp8
    obtain ⟨lf, hlf⟩ : ∃ lf : Int, lf = 8 * (bl : Int) - (q3 : Int) := ⟨_, rfl⟩
    have c18 := lf1 q3 cap9 acc2 hv2 ai2 lf hRS2 hlf
    have c19 := lf2 cap q3 qI4 lf hq8' hq4 hlf
    cbv
    rw [enn]
    cbv
    rw [enn]
    cbv
    by_cases he : e = 0
    rotate_left
    · have ene : vc .neq e 0 = true := by rw [qc, neq_true]; exact he
      rw [ene]
      cbv
      refine call_con (ρ := []) hwakes ⟨by rfl, by rfl, by rfl, by cbv⟩ ?_
      rintro v H R js7 ⟨rfl, rfl, rfl⟩
      cbv
    subst he
    rw [e00]
    cbv
    refine call_con (ρ := [(4, .z), (3, .z), (2, .z), (1, .z)]) c18 ⟨by rfl, by rfl, by rfl, by cbv; exact ⟨view_refl _, trivial⟩⟩ ?_
    rintro v H R js7 ⟨rfl, rfl, rfl⟩
    cbv
    refine call_con (ρ := [(5, .z), (0, .z)]) c19 ⟨by rfl, by rfl, by rfl, by cbv; exact ⟨view_refl _, trivial⟩⟩ ?_
    rintro v H R js8 ⟨rfl, rfl, rfl⟩
    cbv
    rw [enn]
    cbv
    rw [ek]
    refine Cv.fold ([11, 12, 13, 14] ++ [51, 52, 53, 54, 55, 56, 57, 58, 59, 60, 61, 62, 63, 64, 65, 66, 67, 68, 69, 70, 71, 72, 73, 74, 75, 76, 77, 78, 79]) 11 [] (by exact Nat.le_refl _) (by exact Nat.le_of_ble_eq_true rfl) (by rfl) (by cbv) ?_
    intro js
    refine ⟨(_, q3, _, _, _, _), ?_, js, rfl⟩
    exact ⟨⟨i + 1, hkn, hlt, hRS2, hq8', hq4⟩, hmu⟩
theorem own : ownKnob Try.prog.godebug = none := by kernel_rfl
set_option maxRecDepth 100000 in
theorem lifted (os : Os) (started : os.Started) (H : Type) (enc : TypeId × Value → H) :
    ReturnsInHanded {} Try.checked os 4 .any (Rows.symbolsReadSpec.pre6 enc Try.prog Try.f4 Rows.symbolsReadRow.domain false) (Rows.symbolsReadSpec.post enc Try.prog Try.f4 false true false false) := by
  refine returnsInHanded_of_change_sized (C := Try.checked) own started (by kernel_rfl) Try.func4
    (ChangeSpec.witness6 (enc := enc) (C := Try.checked) false ⟨#[], #[.slice none 0 0, .int .i64 0], []⟩ 8 (by kernel_rfl) (by kernel_rfl) (by kernel_rfl) (by kernel_rfl)) ?_
  intro W base args ds gs before hval0 hW hcnd hz _
  have hval : ∀ (j : Nat) t v, Try.f4.params[j]? = some t → args[j]? = some v → Value.okWide Try.prog W .any base t v := hval0
  have hW' := hW
  obtain ⟨p, q, hA0, hV, rfl, hfz, hnd⟩ := hW
  have hA : DataW.TrodAll enc Try.prog W 0 (fun _ => true) true Try.f4.params.toList args.toList ds p := hA0
  rw [Try.params4] at hA hval
  obtain ⟨v0, vs0, d0, ds0, p0, q0, hargs0, rfl, rfl, h0, r0⟩ := trodAll_cons hA
  obtain ⟨v1, vs1, d1, ds1, p1, q1, hargs1, rfl, rfl, h1, r1⟩ := trodAll_cons r0
  obtain ⟨rfl, rfl, rfl⟩ := trodAll_nil r1
  obtain rfl : args = #[v0, v1] := by cases args; simp_all
  obtain ⟨rfl, rfl⟩ := trodVars_none hV
  obtain ⟨s0, l0, cap0, rfl, lt0, ho0, hw0, hc0, hd0⟩ := arg_intsD (P := Try.prog) Try.underlying22 Try.underlying5 (by kernel_rfl) (hval 0 22 v0 rfl rfl) h0
  obtain ⟨a1, rfl, rfl, rfl, w1⟩ := open_int Try.underlying3 (hval 1 3 v1 rfl rfl) h1
  have hb0 : l0.length * 1 ≤ 140737488351232 := by
    rcases hd0 with ⟨_, rfl⟩ | ⟨rest, rfl⟩
    · simp
    · have h := sized_slice hz (j := 0) (t := 22) (e := 5) rfl rfl Try.underlying22
      rw [show Try.checked.prog.bytesOf 5 = 1 by kernel_rfl, show reachBytes = 140737488351232 by rfl] at h
      simp only [lits, List.length_map] at h
      omega
  refine (con_below (law_con l0 cap0 a1 (fun c hc => wf_u8 (hw0 c hc)) (by omega)) (by intro B hB; simp at hB; subst hB; rfl) (ok_args [(s0, .ro .u8 l0)] (by intro e he; simp at he; subst he; exact ⟨lt0, rfl, ho0⟩))).mono fun e W' ⟨he, hb⟩ => ⟨_, he, ?_⟩
  exact law_post hW' rfl (by kernel_rfl) Try.underlying4 (by kernel_rfl) (by kernel_rfl) rfl rfl rfl hb

theorem over : Rows.symbolsReadRow.holds Try.pinned (OpenSpec.ofChange Rows.symbolsReadSpec) :=
  OpenClaim.holds_of_wide 4 Try.f4 rfl rfl rfl rfl rfl rfl rfl ⟨rfl, rfl, rfl, rfl, rfl⟩ rfl rfl rfl rfl rfl (by kernel_rfl) Try.func4 (by kernel_rfl)
    (of_decide_eq_true (by kernel_rfl)) (by unfold Func.isWrapper; first | (rw [if_pos (by decide +kernel)]; kernel_rfl) | (rw [if_neg (by decide +kernel)]; exact ⟨rfl, rfl⟩))
    (fun os started H enc _ => lifted os started H enc)

theorem proved : Rows.SymbolsReadSaid :=
  over
#print axioms proved
end Go.Proofs.Ytkkddgdcmdnnmaa.symbolsRead
