/-
  For every three distances, every number of literals and every distance, balerlaw13.SequencesPick returns true. No condition.
-/
import Derived.Test.YtbipjekiobmpgaaQA
namespace Go.Proofs.Ytbipjekiobmpgaa.sequencesPick
open Go Go.Sx Go.ChangeShapes Go.WideShapes Go.ChangeAt Go.RowKit
set_option linter.unusedVariables false
theorem wf_i64 {x : Int} (h : (Lit.int .i64 x).wf = true) : -9223372036854775808 ≤ x ∧ x < 9223372036854775808 := by
  simp [Lit.wf, IntKind.min, IntKind.max, IntKind.signed, IntKind.bits] at h
  omega
theorem picked {a b c lits dist p : Int} (h1 : 1 ≤ dist) (h2 : dist ≤ 1152921504606846976) (hp : (1 ≤ p ∧ p ≤ 3 ∧ Hits a b c lits dist p) ∨ p = bV .add .i64 dist 3) :
    1 ≤ p ∧ ∃ y z, val3 a b c lits p = (dist, 0, dist, y, z) := by
  rcases hp with ⟨k1, k2, x, y, z, h⟩ | rfl
  · refine ⟨k1, y, z, ?_⟩
    rw [h]
    unfold val3 at h
    rw [if_neg (by omega), if_neg (by omega)] at h
    split at h
    · simp at h
    · simp only [Prod.mk.injEq] at h
      obtain ⟨e1, _, e2, _⟩ := h
      rw [← e2, e1]
  · rw [add_i64 (by omega) (by omega)]
    refine ⟨by omega, a, b, ?_⟩
    unfold val3
    rw [if_neg (by omega), if_pos (by omega), sub_i64 (by omega) (by omega)]
    rw [show dist + 3 - 3 = dist by omega]
set_option maxHeartbeats 8000000
set_option maxRecDepth 10000
theorem law_con (a b c lits dist : Int) (ha : (Lit.int .i64 a).wf = true) (hd : (Lit.int .i64 dist).wf = true) :
    Con Try.prog 3 [.agg [.int .i64 a, .int .i64 b, .int .i64 c], .int .i64 lits, .int .i64 dist] [] (fun v H R => v = .bool true ∧ H = [] ∧ R = []) := by
  have hwakes := wakes13_con
  have hpick := pick_con a b c lits dist
  have hval := fun p => value_con a b c lits p
  have hpd := fun p (h1 : 1 ≤ dist) (h2 : dist ≤ 1152921504606846976) => @picked a b c lits dist p h1 h2
  have ha := wf_i64 ha
  have hd := wf_i64 hd
  refine con_gen (con_cut 0 (by simp) (con_drop (con_walk hmix fn3 ?_)))
  intro vb vc vw vtoN vofN vaddN vsubN vmaxI vminI vcutN vgd vst vln vrep vsub vonto vsplice vstrEq vbyteV vnotB veqB hw qb qc qw qtoN qofN qaddN qsubN qmaxI qminI qcutN qgd qst qln qrep qsub qonto qsplice qstrEq qbyteV qnotB qeqB
  have hm := hmix; generalize Try.prog = P at *
  have hl3 : ∀ x y z : Int, vln [x, y, z] = 3 := fun x y z => by rw [qln]; rfl
  have hg0 : ∀ x y z : Int, vgd [x, y, z] 0 = x := fun x y z => by rw [qgd]; rfl
  have hg1 : ∀ x y z : Int, vgd [x, y, z] 1 = y := fun x y z => by rw [qgd]; rfl
  have hg2 : ∀ x y z : Int, vgd [x, y, z] 2 = z := fun x y z => by rw [qgd]; rfl
  have hs0 : ∀ x y z w : Int, vst [x, y, z] 0 w = [w, y, z] := fun x y z w => by rw [qst]; rfl
  have hs1 : ∀ x y z w : Int, vst [x, y, z] 1 w = [x, w, z] := fun x y z w => by rw [qst]; rfl
  have hs2 : ∀ x y z w : Int, vst [x, y, z] 2 w = [x, y, w] := fun x y z w => by rw [qst]; rfl
  have hr3 : vrep 3 0 = [0, 0, 0] := by rw [qrep]; rfl
  have hee : ∀ x, vc .eql x x = true := fun x => by rw [qc, eql_true]
  generalize val3 a b c lits = VV at *
  generalize Hits a b c lits dist = HT at *
  generalize bV .add .i64 dist 3 = pB at *
  cbv
  rw [hl3, hg0, hg1, hg2, hr3, hs0, hs1, hs2, hl3, hl3, hl3]
  refine ⟨⟨by decide⟩, ⟨by decide⟩, ⟨by decide⟩, ⟨by decide⟩, ⟨by decide⟩, ⟨by decide⟩, ?_⟩
  refine call_con (ρ := [(1, .z)]) hpick ⟨by rfl, by rfl, by rfl, by cbv⟩ ?_
  rintro v H R js ⟨p, rfl, rfl, rfl, hp0, hp1⟩
  have hval := hval p
  have hpd := hpd p
  cbv
  generalize hz1 : vc .lss dist 1 = z1
  cases z1
  rotate_left
  · cbv
    all_goals
      cbv
      rw [hl3, hg0, hg1, hg2, hee]
      refine ⟨⟨by decide⟩, ⟨by decide⟩, ⟨by decide⟩, ⟨by decide⟩, ⟨by decide⟩, ⟨by decide⟩, ?_⟩
      cbv
      rw [hee]
      cbv
      rw [hee]
      cbv
      refine call_con (ρ := []) hwakes ⟨by rfl, by rfl, by rfl, by cbv⟩ ?_
      rintro v H R js2 ⟨rfl, rfl, rfl⟩
      cbv
  rw [qc, lss_false] at hz1
  cbv
  generalize hz2 : vc .gtr dist 1152921504606846976 = z2
  cases z2
  rotate_left
  · cbv
    all_goals
      cbv
      rw [hl3, hg0, hg1, hg2, hee]
      refine ⟨⟨by decide⟩, ⟨by decide⟩, ⟨by decide⟩, ⟨by decide⟩, ⟨by decide⟩, ⟨by decide⟩, ?_⟩
      cbv
      rw [hee]
      cbv
      rw [hee]
      cbv
      refine call_con (ρ := []) hwakes ⟨by rfl, by rfl, by rfl, by cbv⟩ ?_
      rintro v H R js2 ⟨rfl, rfl, rfl⟩
      cbv
  rw [qc, gtr_false] at hz2
  obtain ⟨hp3, y, z, hpv⟩ := hpd (by omega) (by omega) (hp1 hz1)
  cbv
  rw [hl3, hg0]
  refine ⟨⟨by decide⟩, ⟨by decide⟩, ?_⟩
  generalize hz3 : vc .lss a (-1152921504606846976) = z3
  cases z3
  rotate_left
  · cbv
    all_goals
      cbv
      rw [hl3, hg0, hg1, hg2, hee]
      refine ⟨⟨by decide⟩, ⟨by decide⟩, ⟨by decide⟩, ⟨by decide⟩, ⟨by decide⟩, ⟨by decide⟩, ?_⟩
      cbv
      rw [hee]
      cbv
      rw [hee]
      cbv
      refine call_con (ρ := []) hwakes ⟨by rfl, by rfl, by rfl, by cbv⟩ ?_
      rintro v H R js2 ⟨rfl, rfl, rfl⟩
      cbv
  cbv
  refine call_con (ρ := [(1, .z)]) hval ⟨by rfl, by rfl, by rfl, by cbv⟩ ?_
  rintro v H R js2 ⟨d, e, x1, y1, z1, hV, rfl, rfl, rfl⟩
  rw [hpv] at hV
  simp only [Prod.mk.injEq] at hV
  obtain ⟨rfl, rfl, rfl, rfl, rfl⟩ := hV
  have hge : vc .geq p 1 = true := by rw [qc, geq_eq]; simp; omega
  have h00 : vc .eql 0 0 = true := hee 0
  cbv
  rw [hge]
  cbv
  rw [hee]
  cbv
  rw [hee]
  cbv
  rw [hl3, hg0, hee]
  refine ⟨⟨by decide⟩, ⟨by decide⟩, ?_⟩
  cbv
  refine call_con (ρ := []) hwakes ⟨by rfl, by rfl, by rfl, by cbv⟩ ?_
  rintro v H R js2 ⟨rfl, rfl, rfl⟩
  cbv
theorem own : ownKnob Try.prog.godebug = none := by kernel_rfl
set_option maxRecDepth 100000 in
theorem lifted (os : Os) (started : os.Started) (H : Type) (enc : TypeId × Value → H) :
    ReturnsInHanded {} Try.checked os 3 .any (Rows.sequencesPickSpec.pre6 enc Try.prog Try.f3 Rows.sequencesPickRow.domain false) (Rows.sequencesPickSpec.post enc Try.prog Try.f3 false true false false) := by
  refine returnsInHanded_of_change (C := Try.checked) own started (by kernel_rfl) Try.func3
    (ChangeSpec.witness6 (enc := enc) (C := Try.checked) false ⟨#[], #[.agg #[.int .i64 0, .int .i64 0, .int .i64 0], .int .i64 0, .int .i64 0], []⟩ 8 (by kernel_rfl) (by kernel_rfl) (by kernel_rfl) (by kernel_rfl)) ?_
  intro W base args ds gs before hval0 hW hcnd _
  have hval : ∀ (j : Nat) t v, Try.f3.params[j]? = some t → args[j]? = some v → Value.okWide Try.prog W .any base t v := hval0
  have hW' := hW
  obtain ⟨p, q, hA0, hV, rfl, hfz, hnd⟩ := hW
  have hA : DataW.TrodAll enc Try.prog W 0 (fun _ => true) true Try.f3.params.toList args.toList ds p := hA0
  rw [Try.params3] at hA hval
  obtain ⟨v0, vs0, d0, ds0, p0, q0, hargs0, rfl, rfl, h0, r0⟩ := trodAll_cons hA
  obtain ⟨v1, vs1, d1, ds1, p1, q1, hargs1, rfl, rfl, h1, r1⟩ := trodAll_cons r0
  obtain ⟨v2, vs2, d2, ds2, p2, q2, hargs2, rfl, rfl, h2, r2⟩ := trodAll_cons r1
  obtain ⟨rfl, rfl, rfl⟩ := trodAll_nil r2
  obtain rfl : args = #[v0, v1, v2] := by cases args; simp_all
  obtain ⟨rfl, rfl⟩ := trodVars_none hV
  obtain ⟨x0, y0, z0, rfl, wx0, wy0, wz0⟩ := arg_arr3 Try.underlying22 Try.underlying3 (by kernel_rfl) (by kernel_rfl) (hval 0 22 v0 rfl rfl) h0
  obtain ⟨a1, rfl, rfl, rfl, w1⟩ := open_int Try.underlying3 (hval 1 3 v1 rfl rfl) h1
  obtain ⟨a2, rfl, rfl, rfl, w2⟩ := open_int Try.underlying3 (hval 2 3 v2 rfl rfl) h2
  refine (con_below (law_con x0 y0 z0 a1 a2 wx0 w2) (by simp) (ok_args [] (by simp))).mono fun e W' ⟨he, hb⟩ => ⟨_, he, ?_⟩
  exact law_post hW' rfl (by kernel_rfl) Try.underlying4 (by kernel_rfl) (by kernel_rfl) rfl rfl rfl hb

theorem over : Rows.sequencesPickRow.holds Try.pinned (OpenSpec.ofChange Rows.sequencesPickSpec) :=
  OpenClaim.holds_of_wide 3 Try.f3 rfl rfl rfl rfl rfl rfl rfl ⟨rfl, rfl, rfl, rfl, rfl⟩ rfl rfl rfl rfl rfl (by kernel_rfl) Try.func3 (by kernel_rfl)
    (of_decide_eq_true (by kernel_rfl)) (by unfold Func.isWrapper; first | (rw [if_pos (by decide +kernel)]; kernel_rfl) | (rw [if_neg (by decide +kernel)]; exact ⟨rfl, rfl⟩))
    (fun os started H enc _ => lifted os started H enc)

theorem proved : Rows.SequencesPickSaid :=
  over
#print axioms proved
end Go.Proofs.Ytbipjekiobmpgaa.sequencesPick
