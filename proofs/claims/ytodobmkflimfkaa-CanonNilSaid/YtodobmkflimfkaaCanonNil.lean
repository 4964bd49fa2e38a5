/-
  For every row of lengths and every number, balerlaw05.CanonNil returns true and leaves its argument as it was. No condition.
-/
import Derived.Test.YtodobmkflimfkaaTA

namespace Go.Proofs.Ytodobmkflimfkaa.canonNil
open Go Go.Sx Go.ChangeShapes Go.WideShapes Go.ChangeAt Go.RowKit
set_option linter.unusedVariables false
theorem read_nil (l : List Int) (cap : Nat) : Con Try.prog 34 [.val (.pointer none), .slice 0 .z 1 l.length cap] [.ro .u8 l] (fun v H R => v = .tup [.int .i64 0, .int .i64 1] ∧ H = [.ro .u8 l] ∧ R = []) := by
  refine con_gen (con_cut 1 (by simp) (con_drop (con_walk hmix fn34 ?_)))
  intro vb vc vw vtoN vofN vaddN vsubN vmaxI vminI vcutN vgd vst vln vrep vsub vonto vsplice vstrEq vbyteV vnotB veqB hw qb qc qw qtoN qofN qaddN qsubN qmaxI qminI qcutN qgd qst qln qrep qsub qonto qsplice qstrEq qbyteV qnotB qeqB
  have hm := hmix; generalize Try.prog = P at *
  generalize hn : l.length = n at *
  cbv
theorem write_nil (l : List Int) (s : Int) (cap : Nat) : Con Try.prog 42 [.val (.pointer none), .slice 0 .z 1 l.length cap, .int .i64 s] [.ro .u8 l] (fun v H R => v = .int .i64 1 ∧ H = [.ro .u8 l] ∧ R = []) := by
  refine con_gen (con_cut 1 (by simp) (con_drop (con_walk hmix fn42 ?_)))
  intro vb vc vw vtoN vofN vaddN vsubN vmaxI vminI vcutN vgd vst vln vrep vsub vonto vsplice vstrEq vbyteV vnotB veqB hw qb qc qw qtoN qofN qaddN qsubN qmaxI qminI qcutN qgd qst qln qrep qsub qonto qsplice qstrEq qbyteV qnotB qeqB
  have hm := hmix; generalize Try.prog = P at *
  generalize hn : l.length = n at *
  cbv
theorem law_con (l : List Int) (s : Int) (cap : Nat) :
    Con Try.prog 9 [.slice 0 .z 1 l.length cap, .int .i64 s] [.ro .u8 l] (fun v H R => v = .bool true ∧ H = [.ro .u8 l] ∧ R = []) := by
  have hread := read_nil l cap
  have hwrite := write_nil l s cap
  have hwakes := wakes5_con
  refine con_gen (con_cut 1 (by simp) (con_drop (con_walk hmix fn9 ?_)))
  intro vb vc vw vtoN vofN vaddN vsubN vmaxI vminI vcutN vgd vst vln vrep vsub vonto vsplice vstrEq vbyteV vnotB veqB hw qb qc qw qtoN qofN qaddN qsubN qmaxI qminI qcutN qgd qst qln qrep qsub qonto qsplice qstrEq qbyteV qnotB qeqB
  have hm := hmix; generalize Try.prog = P at *
  generalize hn : l.length = n at *
  have h00 : vc .eql 0 0 = true := by rw [qc]; rfl
  have h11 : vc .eql 1 1 = true := by rw [qc]; rfl
  cbv
  refine call_con (ρ := [(0, .z)]) hread ⟨by rfl, by rfl, by rfl, by cbv; exact ⟨⟨⟨by omega, fun i _ => by rw [Nat.zero_add]⟩⟩, trivial⟩⟩ ?_
  rintro v H R js ⟨rfl, rfl, rfl⟩
  cbv
  rw [h00]
  cbv
  rw [h11]
  cbv
  refine call_con (ρ := [(0, .z)]) hwrite ⟨by rfl, by rfl, by rfl, by cbv; exact ⟨⟨⟨by omega, fun i _ => by rw [Nat.zero_add]⟩⟩, trivial⟩⟩ ?_
  rintro v H R js ⟨rfl, rfl, rfl⟩
  cbv
  rw [h11]
  cbv
  refine call_con (ρ := []) hwakes ⟨by rfl, by rfl, by rfl, by cbv⟩ ?_
  rintro v H R js ⟨rfl, rfl, rfl⟩
  cbv
theorem own : ownKnob Try.prog.godebug = none := by kernel_rfl
set_option maxRecDepth 100000 in
theorem lifted (os : Os) (started : os.Started) (H : Type) (enc : TypeId × Value → H) :
    ReturnsInHanded {} Try.checked os 9 .any (Rows.canonNilSpec.pre6 enc Try.prog Try.f9 Rows.canonNilRow.domain false) (Rows.canonNilSpec.post enc Try.prog Try.f9 false true false false) := by
  refine returnsInHanded_of_change (C := Try.checked) own started (by kernel_rfl) Try.func9
    (ChangeSpec.witness6 (enc := enc) (C := Try.checked) false ⟨#[], #[.slice none 0 0, .int .i64 0], []⟩ 8 (by kernel_rfl) (by kernel_rfl) (by kernel_rfl) (by kernel_rfl)) ?_
  intro W base args ds gs before hval0 hW hcnd _
  have hval : ∀ (j : Nat) t v, Try.f9.params[j]? = some t → args[j]? = some v → Value.okWide Try.prog W .any base t v := hval0
  have hW' := hW
  obtain ⟨p, q, hA0, hV, rfl, hfz, hnd⟩ := hW
  have hA : DataW.TrodAll enc Try.prog W 0 (fun _ => true) true Try.f9.params.toList args.toList ds p := hA0
  rw [Try.params9] at hA hval
  obtain ⟨v0, vs0, d0, ds0, p0, q0, hargs0, rfl, rfl, h0, r0⟩ := trodAll_cons hA
  obtain ⟨v1, vs1, d1, ds1, p1, q1, hargs1, rfl, rfl, h1, r1⟩ := trodAll_cons r0
  obtain ⟨rfl, rfl, rfl⟩ := trodAll_nil r1
  obtain rfl : args = #[v0, v1] := by cases args; simp_all
  obtain ⟨rfl, rfl⟩ := trodVars_none hV
  obtain ⟨s0, l0, cap0, rfl, lt0, ho0, hw0, hc0, hm0⟩ := arg_ints (P := Try.prog) Try.underlying23 Try.underlying5 (by kernel_rfl) (hval 0 23 v0 rfl rfl) h0
  obtain ⟨a1, rfl, rfl, rfl, w1⟩ := open_int Try.underlying3 (hval 1 3 v1 rfl rfl) h1
  refine (con_below (law_con l0 a1 cap0) (by intro B hB; simp at hB; subst hB; rfl) (ok_args [(s0, .ro .u8 l0)] (by intro e he; simp at he; subst he; exact ⟨lt0, rfl, ho0⟩))).mono fun e W' ⟨he, hb⟩ => ⟨_, he, ?_⟩
  exact law_post hW' rfl (by kernel_rfl) Try.underlying4 (by kernel_rfl) (by kernel_rfl) rfl rfl rfl hb

theorem over : Rows.canonNilRow.holds Try.pinned (OpenSpec.ofChange Rows.canonNilSpec) :=
  OpenClaim.holds_of_wide 9 Try.f9 rfl rfl rfl rfl rfl rfl rfl ⟨rfl, rfl, rfl, rfl, rfl⟩ rfl rfl rfl rfl rfl (by kernel_rfl) Try.func9 (by kernel_rfl)
    (of_decide_eq_true (by kernel_rfl)) (by unfold Func.isWrapper; first | (rw [if_pos (by decide +kernel)]; kernel_rfl) | (rw [if_neg (by decide +kernel)]; exact ⟨rfl, rfl⟩))
    (fun os started H enc _ => lifted os started H enc)

theorem proved : Rows.CanonNilSaid :=
  over
#print axioms proved
end Go.Proofs.Ytodobmkflimfkaa.canonNil
