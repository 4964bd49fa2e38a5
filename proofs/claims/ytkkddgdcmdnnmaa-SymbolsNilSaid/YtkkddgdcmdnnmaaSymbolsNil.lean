/-
  For all codes and numbers, balerlaw19.SymbolsNil returns true and leaves its arguments as they were. No condition.
-/
import Derived.Test.YtkkddgdcmdnnmaaA1
import Derived.Test.YtkkddgdcmdnnmaaED
namespace Go.Proofs.Ytkkddgdcmdnnmaa.symbolsNil
open Go Go.Sx Go.ChangeShapes Go.WideShapes Go.ChangeAt Go.RowKit Go.Deep
set_option linter.unusedVariables false
theorem wf_u8 {x : Int} (h : (Lit.int .u8 x).wf = true) : isU8 x := by
  simp [Lit.wf, IntKind.min, IntKind.max, IntKind.signed, IntKind.bits] at h
  unfold isU8
  omega
set_option maxHeartbeats 40000000 in
set_option maxRecDepth 10000 in
theorem law_con (l : List Int) (cap : Nat) (one trees size : Int) (hlu : ∀ c ∈ l, isU8 c) (hlen : l.length ≤ 9223372036854775807) :
    Con Try.prog 3 [.agg [.slice 0 .z 1 l.length cap, .int .i64 one], .int .i64 trees, .int .i64 size] [.ro .u8 l] (fun v H R => v = .bool true ∧ H = [.ro .u8 l] ∧ R = []) := by
  have hwakes := wakes14_con
  have c1 := read_nil size
  have c2 := next_nil l l.length cap one
  have c3 := map_nil trees size
  have c4 := count_nil
  have c5 := rnew_con [1, 2, 3] 3 (by decide)
  have c6 := fun cap' => next_con l [1, 2, 3] cap' cap 0 0 0 one hlu hlen (by intro x hx; simp only [List.mem_cons, List.not_mem_nil, or_false] at hx; unfold isByte; omega) (by decide) (RS.start _)
  have c7 := write_nil l l.length cap one size
  obtain ⟨z, hz⟩ : ∃ z : Bool, z = true ↔ Right5 l := by
    by_cases h : Right5 l
    · exact ⟨true, by simp [h]⟩
    · exact ⟨false, by simp [h]⟩
  have c8 := refright5_con l cap hlu hlen z hz
  simp only [List.length_cons, List.length_nil] at c5 c6
  generalize Right5 l = R5 at *
  refine con_gen (con_cut 1 (by simp) (con_drop (con_walk hmix fn3 ?_)))
  intro vb vc vw vtoN vofN vaddN vsubN vmaxI vminI vcutN vgd vst vln vrep vsub vonto vsplice vstrEq vbyteV vnotB veqB hw qb qc qw qtoN qofN qaddN qsubN qmaxI qminI qcutN qgd qst qln qrep qsub qonto qsplice qstrEq qbyteV qnotB qeqB
  have hm := hmix; generalize Try.prog = P at *
  generalize hln : l.length = ln at *
  have e11 : vc .eql 1 1 = true := by rw [qc]; rfl
  obtain ⟨lI, hlI⟩ : ∃ lI : Int, lI = ln := ⟨_, rfl⟩
  have el : vofN ln = lI := by rw [qofN, hlI]
  cbv
  refine call_con (ρ := []) c1 ⟨by rfl, by rfl, by rfl, by cbv⟩ ?_
  rintro v H R js ⟨rfl, rfl, rfl⟩
  cbv
  refine call_con (ρ := [(0, .z)]) c2 ⟨by rfl, by rfl, by rfl, by cbv; exact ⟨view_refl _, trivial⟩⟩ ?_
  rintro v H R js2 ⟨rfl, rfl, rfl⟩
  cbv
  refine call_con (ρ := []) c3 ⟨by rfl, by rfl, by rfl, by cbv⟩ ?_
  rintro v H R js3 ⟨rfl, rfl, rfl⟩
  cbv
  refine call_con (ρ := []) c4 ⟨by rfl, by rfl, by rfl, by cbv⟩ ?_
  rintro v H R js4 ⟨rfl, rfl, rfl⟩
  cbv
  refine call_con (ρ := [(3, .z)]) c5 ⟨by rfl, by rfl, by rfl, by cbv; exact ⟨view_refl _, trivial⟩⟩ ?_
  rintro v H R js5 ⟨rfl, rfl, c9, rfl⟩
  cbv
  refine call_con (ρ := [(7, .z), (6, .z), (5, .z), (4, .z), (0, .z)]) (c6 c9) ⟨by rfl, by rfl, by rfl, by cbv; exact ⟨view_refl _, view_refl _, trivial⟩⟩ ?_
  rintro v H R js6 ⟨rfl, s, e, rfl, he, acc2, hv2, ai2, rfl⟩
  cbv
  rw [e11]
  cbv
  rw [e11]
  cbv
  rw [e11]
  cbv
  rw [e11]
  cbv
  refine call_con (ρ := [(0, .z)]) c7 ⟨by rfl, by rfl, by rfl, by cbv; exact ⟨view_refl _, trivial⟩⟩ ?_
  rintro v H R js7 ⟨rfl, rfl, rfl⟩
  cbv
  rw [e11]
  cbv
  rw [el]
  generalize hz1 : vc .eql lI 0 = z1
  cases z1
  rotate_left
  · cbv
    refine call_con (ρ := []) hwakes ⟨by rfl, by rfl, by rfl, by cbv⟩ ?_
    rintro v H R js9 ⟨rfl, rfl, rfl⟩
    cbv
  rw [qc, eql_false] at hz1
  cbv
  refine call_con (ρ := [(0, .z)]) c8 ⟨by rfl, by rfl, by rfl, by cbv; exact ⟨view_refl _, trivial⟩⟩ ?_
  rintro v H R js8 ⟨rfl, rfl, rfl⟩
  cases z
  rotate_left
  · cbv
    refine call_con (ρ := []) hwakes ⟨by rfl, by rfl, by rfl, by cbv⟩ ?_
    rintro v H R js9 ⟨rfl, rfl, rfl⟩
    cbv
  · have hR : ¬ R5 := fun h => by have := hz.2 h; cases this
    obtain rfl : e = 50 := he (by ((try simp only [nc] at *); omega)) hR
    have e50 : vc .eql 50 50 = true := by rw [qc]; rfl
    cbv
    rw [e50]
    cbv
    refine call_con (ρ := []) hwakes ⟨by rfl, by rfl, by rfl, by cbv⟩ ?_
    rintro v H R js9 ⟨rfl, rfl, rfl⟩
    cbv
theorem own : ownKnob Try.prog.godebug = none := by kernel_rfl
set_option maxRecDepth 100000 in
theorem lifted (os : Os) (started : os.Started) (H : Type) (enc : TypeId × Value → H) :
    ReturnsInHanded {} Try.checked os 3 .any (Rows.symbolsNilSpec.pre6 enc Try.prog Try.f3 Rows.symbolsNilRow.domain false) (Rows.symbolsNilSpec.post enc Try.prog Try.f3 false true false false) := by
  refine returnsInHanded_of_change (C := Try.checked) own started (by kernel_rfl) Try.func3
    (ChangeSpec.witness6 (enc := enc) (C := Try.checked) false ⟨#[], #[.agg #[.slice none 0 0, .int .i64 0], .int .i64 0, .int .i64 0], []⟩ 8 (by kernel_rfl) (by kernel_rfl) (by kernel_rfl) (by kernel_rfl)) ?_
  intro W base args ds gs before hval0 hW hcnd _
  have hval : ∀ (j : Nat) t v, Try.f3.params[j]? = some t → args[j]? = some v → Value.okWide Try.prog W .any base t v := hval0
  have hW' := hW
  obtain ⟨p, q, hA0, hV, rfl, hfz, hnd⟩ := hW
  have hA : DataW.TrodAll enc Try.prog W 0 (fun _ => true) true Try.f3.params.toList args.toList ds p := hA0
  rw [Try.params3] at hA hval
  obtain ⟨v0, vs0, d0, ds0, p0, q0, hargs0, rfl, rfl, h0, r0⟩ := trodAll_cons hA
  obtain ⟨v1, vs1, d1, ds1, p1, q1, hargs1, rfl, rfl, h1, r1⟩ := trodAll_cons r0
  obtain ⟨v2, vs2, d2, ds2, p2, q2, hargs2, rfl, rfl, h2, r2⟩ := trodAll_cons r1
  obtain ⟨rfl, rfl, rfl⟩ := trodAll_nil r2
  obtain rfl : args = #[v0, v1, v2] := by cases args; simp_all
  obtain ⟨rfl, rfl⟩ := trodVars_none hV
  obtain ⟨s0, l0, cap0, a0, rfl, lt0, ho0, hw0, hc0, hm0, w0⟩ := arg_code (P := Try.prog) (ts := 22) (ti := 3) Try.underlying24 rfl rfl rfl rfl (by kernel_rfl) (by kernel_rfl) (by kernel_rfl) (by kernel_rfl) Try.underlying22 Try.underlying5 (by kernel_rfl) Try.underlying3 (hval 0 24 v0 rfl rfl) h0
  obtain ⟨a1, rfl, rfl, rfl, w1⟩ := open_int Try.underlying3 (hval 1 3 v1 rfl rfl) h1
  obtain ⟨a2, rfl, rfl, rfl, w2⟩ := open_int Try.underlying3 (hval 2 3 v2 rfl rfl) h2
  refine (con_below (law_con l0 cap0 a0 a1 a2 (fun c hc => wf_u8 (hw0 c hc)) (by rw [show maxLen = 9223372036854775807 by rfl] at hm0; omega)) (by intro B hB; simp at hB; subst hB; rfl) (ok_args [(s0, .ro .u8 l0)] (by intro e he; simp at he; subst he; exact ⟨lt0, rfl, ho0⟩))).mono fun e W' ⟨he, hb⟩ => ⟨_, he, ?_⟩
  exact law_post hW' rfl (by kernel_rfl) Try.underlying4 (by kernel_rfl) (by kernel_rfl) rfl rfl rfl hb

theorem over : Rows.symbolsNilRow.holds Try.pinned (OpenSpec.ofChange Rows.symbolsNilSpec) :=
  OpenClaim.holds_of_wide 3 Try.f3 rfl rfl rfl rfl rfl rfl rfl ⟨rfl, rfl, rfl, rfl, rfl⟩ rfl rfl rfl rfl rfl (by kernel_rfl) Try.func3 (by kernel_rfl)
    (of_decide_eq_true (by kernel_rfl)) (by unfold Func.isWrapper; first | (rw [if_pos (by decide +kernel)]; kernel_rfl) | (rw [if_neg (by decide +kernel)]; exact ⟨rfl, rfl⟩))
    (fun os started H enc _ => lifted os started H enc)

theorem proved : Rows.SymbolsNilSaid :=
  over
#print axioms proved
end Go.Proofs.Ytkkddgdcmdnnmaa.symbolsNil
