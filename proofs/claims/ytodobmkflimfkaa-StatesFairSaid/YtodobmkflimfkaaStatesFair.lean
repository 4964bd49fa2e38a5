/-
  For every row of counts of things and every log, balerlaw07.StatesFair returns true and leaves its argument as it was. No condition.
-/
import Derived.Test.YtodobmkflimfkaaSC
namespace Go.Proofs.Ytodobmkflimfkaa.statesFair
open Go Go.Sx Go.ChangeShapes Go.WideShapes Go.ChangeAt Go.RowKit
set_option linter.unusedVariables false
theorem wf_u32 {x : Int} (h : (Lit.int .u32 x).wf = true) : isU32 x := by
  simp [Lit.wf, IntKind.min, IntKind.max, IntKind.signed, IntKind.bits] at h
  unfold isU32
  omega
set_option maxHeartbeats 8000000 in
set_option maxRecDepth 10000 in
theorem law_con (l : List Int) (log : Int) (cap : Nat) (hl : ∀ c ∈ l, isU32 c) (hlog : -9223372036854775808 ≤ log ∧ log ≤ 9223372036854775807) (hlen : l.length ≤ 9223372036854775807) :
    Con Try.prog 6 [.slice 0 .z 1 l.length cap, .int .i64 log] [.ro .u32 l] (fun v H R => v = .bool true ∧ H = [.ro .u32 l] ∧ R = []) := by
  have hcounts := counts_con l log cap hl hlog hlen
  have hable := able_con l log cap hl hlog
  have hright := refright_con
  have hwakes := wakes_con
  by_cases hA : Able l log
  · rw [show decide (Able l log) = true by simp [hA]] at hable
    have hcounts : Con Try.prog 29 [.slice 0 .z 1 l.length cap, .int .i64 log] [.ro .u32 l] (fun v H R => ∃ c, Fair l c log ∧ R = [] ∧ v = .tup [.slice 1 .z 1 c.length c.length, .int .i64 0] ∧ H = [.ro .u32 l, .ints 47 .i16 c]) := by
      refine hcounts.mono ?_
      rintro v H R ⟨rfl, ⟨h, _⟩ | ⟨_, c, h1, h2, h3⟩⟩
      · exact absurd hA h
      · exact ⟨c, h1, rfl, h2, h3⟩
    refine con_gen (con_cut 1 (by simp) (con_drop (con_walk hmix fn6 ?_)))
    intro vb vc vw vtoN vofN vaddN vsubN vmaxI vminI vcutN vgd vst vln vrep vsub vonto vsplice vstrEq vbyteV vnotB veqB hw qb qc qw qtoN qofN qaddN qsubN qmaxI qminI qcutN qgd qst qln qrep qsub qonto qsplice qstrEq qbyteV qnotB qeqB
    have hm := hmix; generalize Try.prog = P at *
    have hfd : ∀ c, Fair l c log → decide (Right c log) = true ∧ c.length ≤ l.length ∧ (∀ x ∈ c, isI16 x) ∧ ∀ s, s < l.length → (0 < l.getD s 0 ↔ (s < c.length ∧ c.getD s 0 ≠ 0)) := fun c h => ⟨by simp [h.1], h.2⟩
    generalize Fair l = FA at *
    generalize hn : l.length = n at *
    have hto : ∀ i : Nat, vtoN (i : Int) = i := fun i => by simp only [qtoN, Int.toNat_natCast]
    have hadd0 : ∀ i, vaddN 0 i = i := fun i => by simp only [qaddN, Nat.zero_add]
    have hvln : vln l = n := by simp only [qln, hn]
    have hvgd : ∀ l i, vgd l i = l.getD i 0 := fun l i => by simp only [qgd]
    have hnt : vnotB true = false := by simp only [qnotB]; rfl
    have h00 : vc .neq 0 0 = false := by rw [qc]; rfl
    cbv
    refine call_con (ρ := [(0, .z)]) hcounts ⟨by rfl, by rfl, by rfl, by cbv; exact ⟨view_refl _, trivial⟩⟩ ?_
    rintro v H R js ⟨c, hF, rfl, rfl, rfl⟩
    obtain ⟨f1, f2, f3, f4⟩ := hfd c hF
    have hr := hright c log c.length f3 hlog
    rw [f1] at hr
    have hvlc : vln c = c.length := by simp only [qln]
    generalize hcl : c.length = cl at *
    have hgt : vc .gtr (vofN cl) (vofN n) = false := by rw [qc, qofN, gtr_false]; simp only [nc] at *; omega
    cbv
    refine call_con (ρ := [(0, .z)]) hable ⟨by rfl, by rfl, by rfl, by cbv; exact ⟨view_refl _, trivial⟩⟩ ?_
    rintro v H R js2 ⟨rfl, rfl, rfl⟩
    cbv
    rw [hnt]
    cbv
    rw [h00]
    cbv
    refine call_con (ρ := [(1, .z)]) hr ⟨by rfl, by rfl, by rfl, by cbv; exact ⟨view_refl _, trivial⟩⟩ ?_
    rintro v H R js3 ⟨rfl, rfl, rfl⟩
    cbv
    rw [hnt]
    cbv
    rw [hgt]
    cbv
    refine loop_fam (α := Int) ([7] ++ [46, 47, 48, 49, 50, 51, 52, 53, 54, 55, 56, 57, 58, 59, 60, 61, 62, 63, 64, 65]) [] (fun k => [(45, .int .i64 k)]) (fun _ => []) (fun k => ∃ i : Nat, k = i ∧ i ≤ n) (fun k => n - k.toNat) hw hm ?_ ?_
    · refine Cv.genAt [45] [] (Cv.fold ([7] ++ [46, 47, 48, 49, 50, 51, 52, 53, 54, 55, 56, 57, 58, 59, 60, 61, 62, 63, 64, 65]) 2 [] (by exact Nat.le_refl _) (by exact Nat.le_of_ble_eq_true rfl) (by rfl) (by cbv) ?_)
      intro js
      refine ⟨_, ?_, js, rfl⟩
      exact ⟨0, rfl, by omega⟩
    · rintro k js ⟨i, hk, hi⟩
      cbv
      split
      rotate_left
      · cbv
        refine call_con (ρ := []) hwakes ⟨by rfl, by rfl, by rfl, by cbv⟩ ?_
        rintro v H R js4 ⟨rfl, rfl, rfl⟩
        cbv
      · rename_i hlt
        have hlt : i < n := by rw [qc, lss_true] at hlt; simp only [qofN] at hlt; simp only [nc] at *; omega
        have hti : vtoN k = i := by rw [hk]; exact hto i
        have hinR : 0 ≤ k ∧ k < (n : Int) := by simp only [nc] at *; omega
        obtain ⟨k1, hk1⟩ : ∃ k1 : Int, k1 = ((i + 1 : Nat) : Int) := ⟨_, rfl⟩
        have ek : vb .add .i64 k 1 = k1 := by simp only [nc] at *; rw [qb, add_i64 (by omega) (by omega)]; omega
        have hmu : n - k1.toNat < n - k.toNat := by simp only [nc] at *; omega
        have hfi := f4 i hlt
        have hveq : ∀ b, vnotB (veqB b b) = false := fun b => by simp only [qnotB, qeqB]; cases b <;> rfl
        cbv
        rw [hti, hadd0, hvgd]
        refine ⟨⟨hinR⟩, ⟨by omega⟩, ⟨by omega⟩, ?_⟩
        generalize hz : vc .lss k (vofN cl) = z
        cases z
        · rw [qc, qofN, lss_false] at hz
          have hg : vc .gtr (l.getD i 0) 0 = false := by
            rw [qc, gtr_false]
            intro h
            have := hfi.1 h
            simp only [nc] at *; omega
          cbv
          rw [hg, hveq]
          cbv
          rw [ek]
          refine Cv.fold ([7] ++ [46, 47, 48, 49, 50, 51, 52, 53, 54, 55, 56, 57, 58, 59, 60, 61, 62, 63, 64, 65]) 2 [] (by exact Nat.le_refl _) (by exact Nat.le_of_ble_eq_true rfl) (by rfl) (by cbv) ?_
          intro js
          refine ⟨_, ?_, js, rfl⟩
          exact ⟨⟨i + 1, hk1, hlt⟩, hmu⟩
        · rw [qc, qofN, lss_true] at hz
          have hic : i < cl := by simp only [nc] at *; omega
          have hinC : 0 ≤ k ∧ k < (cl : Int) := by simp only [nc] at *; omega
          have hg : vc .gtr (l.getD i 0) 0 = vc .neq (c.getD i 0) 0 := by
            cases hb : vc .neq (c.getD i 0) 0
            · rw [qc, neq_false] at hb
              rw [qc, gtr_false]
              intro h
              exact hb (hfi.1 h).2
            · rw [qc, neq_true] at hb
              rw [qc, gtr_true]
              exact hfi.2 ⟨hic, hb⟩
          cbv
          rw [hti, hvgd, hg, hveq]
          cbv
          rw [ek]
          refine ⟨⟨hinC⟩, ⟨by omega⟩, ?_⟩
          refine Cv.fold ([7] ++ [46, 47, 48, 49, 50, 51, 52, 53, 54, 55, 56, 57, 58, 59, 60, 61, 62, 63, 64, 65]) 2 [] (by exact Nat.le_refl _) (by exact Nat.le_of_ble_eq_true rfl) (by rfl) (by cbv) ?_
          intro js
          refine ⟨_, ?_, js, rfl⟩
          exact ⟨⟨i + 1, hk1, hlt⟩, hmu⟩
  · rw [show decide (Able l log) = false by simp [hA]] at hable
    have hcounts : Con Try.prog 29 [.slice 0 .z 1 l.length cap, .int .i64 log] [.ro .u32 l] (fun v H R => R = [] ∧ v = .tup [.val (.slice none 0 0), .int .i64 2] ∧ H = [.ro .u32 l]) := by
      refine hcounts.mono ?_
      rintro v H R ⟨rfl, ⟨_, h1, h2⟩ | ⟨h, _⟩⟩
      · exact ⟨rfl, h1, h2⟩
      · exact absurd h hA
    refine con_gen (con_cut 1 (by simp) (con_drop (con_walk hmix fn6 ?_)))
    intro vb vc vw vtoN vofN vaddN vsubN vmaxI vminI vcutN vgd vst vln vrep vsub vonto vsplice vstrEq vbyteV vnotB veqB hw qb qc qw qtoN qofN qaddN qsubN qmaxI qminI qcutN qgd qst qln qrep qsub qonto qsplice qstrEq qbyteV qnotB qeqB
    have hm := hmix; generalize Try.prog = P at *
    generalize hn : l.length = n at *
    have hnf : vnotB false = true := by simp only [qnotB]; rfl
    have h22 : vc .eql 2 2 = true := by rw [qc]; rfl
    cbv
    refine call_con (ρ := [(0, .z)]) hcounts ⟨by rfl, by rfl, by rfl, by cbv; exact ⟨view_refl _, trivial⟩⟩ ?_
    rintro v H R js ⟨rfl, rfl, rfl⟩
    cbv
    refine call_con (ρ := [(0, .z)]) hable ⟨by rfl, by rfl, by rfl, by cbv; exact ⟨view_refl _, trivial⟩⟩ ?_
    rintro v H R js2 ⟨rfl, rfl, rfl⟩
    cbv
    rw [hnf]
    cbv
    rw [h22]
    cbv
    refine call_con (ρ := []) hwakes ⟨by rfl, by rfl, by rfl, by cbv⟩ ?_
    rintro v H R js4 ⟨rfl, rfl, rfl⟩
    cbv
theorem own : ownKnob Try.prog.godebug = none := by kernel_rfl
set_option maxRecDepth 100000 in
theorem lifted (os : Os) (started : os.Started) (H : Type) (enc : TypeId × Value → H) :
    ReturnsInHanded {} Try.checked os 6 .any (Rows.statesFairSpec.pre6 enc Try.prog Try.f6 Rows.statesFairRow.domain false) (Rows.statesFairSpec.post enc Try.prog Try.f6 false true false false) := by
  refine returnsInHanded_of_change (C := Try.checked) own started (by kernel_rfl) Try.func6
    (ChangeSpec.witness6 (enc := enc) (C := Try.checked) false ⟨#[], #[.slice none 0 0, .int .i64 0], []⟩ 8 (by kernel_rfl) (by kernel_rfl) (by kernel_rfl) (by kernel_rfl)) ?_
  intro W base args ds gs before hval0 hW hcnd _
  have hval : ∀ (j : Nat) t v, Try.f6.params[j]? = some t → args[j]? = some v → Value.okWide Try.prog W .any base t v := hval0
  have hW' := hW
  obtain ⟨p, q, hA0, hV, rfl, hfz, hnd⟩ := hW
  have hA : DataW.TrodAll enc Try.prog W 0 (fun _ => true) true Try.f6.params.toList args.toList ds p := hA0
  rw [Try.params6] at hA hval
  obtain ⟨v0, vs0, d0, ds0, p0, q0, hargs0, rfl, rfl, h0, r0⟩ := trodAll_cons hA
  obtain ⟨v1, vs1, d1, ds1, p1, q1, hargs1, rfl, rfl, h1, r1⟩ := trodAll_cons r0
  obtain ⟨rfl, rfl, rfl⟩ := trodAll_nil r1
  obtain rfl : args = #[v0, v1] := by cases args; simp_all
  obtain ⟨rfl, rfl⟩ := trodVars_none hV
  obtain ⟨s0, l0, cap0, rfl, lt0, ho0, hw0, hc0, hm0⟩ := arg_ints (P := Try.prog) Try.underlying22 Try.underlying30 (by kernel_rfl) (hval 0 22 v0 rfl rfl) h0
  obtain ⟨a1, rfl, rfl, rfl, w1⟩ := open_int Try.underlying3 (hval 1 3 v1 rfl rfl) h1
  refine (con_below (law_con l0 a1 cap0 (fun x hx => wf_u32 (hw0 x hx)) (wf_i64 w1) (by have : maxLen = 9223372036854775807 := rfl; omega)) (by intro B hB; simp at hB; subst hB; rfl) (ok_args [(s0, .ro .u32 l0)] (by intro e he; simp at he; subst he; exact ⟨lt0, rfl, ho0⟩))).mono fun e W' ⟨he, hb⟩ => ⟨_, he, ?_⟩
  exact law_post hW' rfl (by kernel_rfl) Try.underlying4 (by kernel_rfl) (by kernel_rfl) rfl rfl rfl hb

theorem over : Rows.statesFairRow.holds Try.pinned (OpenSpec.ofChange Rows.statesFairSpec) :=
  OpenClaim.holds_of_wide 6 Try.f6 rfl rfl rfl rfl rfl rfl rfl ⟨rfl, rfl, rfl, rfl, rfl⟩ rfl rfl rfl rfl rfl (by kernel_rfl) Try.func6 (by kernel_rfl)
    (of_decide_eq_true (by kernel_rfl)) (by unfold Func.isWrapper; first | (rw [if_pos (by decide +kernel)]; kernel_rfl) | (rw [if_neg (by decide +kernel)]; exact ⟨rfl, rfl⟩))
    (fun os started H enc _ => lifted os started H enc)

theorem proved : Rows.StatesFairSaid :=
  over
#print axioms proved
end Go.Proofs.Ytodobmkflimfkaa.statesFair
