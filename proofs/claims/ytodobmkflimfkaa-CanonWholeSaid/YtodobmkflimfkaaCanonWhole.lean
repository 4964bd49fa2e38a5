/-
  For every row of lengths and every sixteen bits, balerlaw05.CanonWhole returns true and leaves its argument as it was. No condition.
-/
import Derived.Test.YtodobmkflimfkaaTB
namespace Go.Proofs.Ytodobmkflimfkaa.canonWhole
open Go Go.Sx Go.ChangeShapes Go.WideShapes Go.ChangeAt Go.RowKit
set_option linter.unusedVariables false
theorem wf_u8 {x : Int} (h : (Lit.int .u8 x).wf = true) : isU8 x := by
  simp [Lit.wf, IntKind.min, IntKind.max, IntKind.signed, IntKind.bits] at h
  unfold isU8
  omega
set_option maxHeartbeats 8000000
set_option maxRecDepth 10000
theorem law_con (l : List Int) (x : Int) (cap : Nat) (hlu : ∀ c ∈ l, isU8 c) (hlen : l.length ≤ 9223372036854775807) :
    Con Try.prog 7 [.slice 0 .z 1 l.length cap, .int .u16 x] [.ro .u8 l] (fun v H R => v = .bool true ∧ H = [.ro .u8 l] ∧ R = []) := by
  have hwakes := wakes5_con
  by_cases h5 : Right5 l
  · have hcodes := codes_ok l cap hlu h5
    have hR := h5.rt hlu
    have hnew : ∀ x0 x1 : Int, Con Try.prog 33 [.slice 0 .z 1 2 2] [.ro .u8 [x0, x1]] (fun v H R => v = .ptr 4 .z 4 0 ∧ R = [1] ∧ ∃ c, H = [.ro .u8 [x0, x1], .buf 5 .u8 [x0, x1] c, .one 23 [.slice 1 .z 1 2 c], .one 3 [.int .i64 0], .one 131 [.fn 80 [.ptr 3 .z 1 0, .ptr 2 .z 1 0], .int .u64 0, .int .i64 0, .fn 81 [.ptr 2 .z 1 0, .ptr 3 .z 1 0]]]) := fun x0 x1 => rnew_con [x0, x1] 2 (by simp)
    have hread : ∀ (x0 x1 : Int) (c : Nat), isByte x0 → isByte x1 → Con Try.prog 34 [.ptr 0 .z 4 0, .slice 4 .z 1 l.length cap] [(.one 131 [.fn 80 [.ptr 1 .z 1 0, .ptr 2 .z 1 0], .int .u64 0, .int .i64 0, .fn 81 [.ptr 2 .z 1 0, .ptr 1 .z 1 0]]), .one 3 [.int .i64 0], .one 23 [.slice 3 .z 1 2 c], .ro .u8 [x0, x1], .ro .u8 l]
        (fun v H R => ∃ acc2 hv2 ai2, ∃ q i : Nat, ∃ iI : Int, iI = i ∧ v = .tup [.int .i64 iI, .int .i64 0] ∧ RS [x0, x1] q acc2 hv2 ai2 ∧ i < l.length ∧ l.getD i 0 = q ∧ 1 ≤ q ∧ q ≤ 15 ∧ R = [] ∧
        H = [(.one 131 [.fn 80 [.ptr 1 .z 1 0, .ptr 2 .z 1 0], .int .u64 (acc2), .int .i64 (hv2), .fn 81 [.ptr 2 .z 1 0, .ptr 1 .z 1 0]]), .one 3 [.int .i64 ai2], .one 23 [.slice 3 .z 1 2 c], .ro .u8 [x0, x1], .ro .u8 l]) := fun x0 x1 c hb0 hb1 => by
      refine (read5_ok l [x0, x1] 0 c cap 0 0 0 hlu h5 (by simp [hb0, hb1]) (by simp) (RS.start _) (by omega)).mono ?_
      rintro v H R ⟨acc2, hv2, ai2, s, e, q, rfl, h1, h2, rfl, rfl⟩
      obtain ⟨i, rfl, k2, rfl, k4, k5, k6⟩ := h2.whole rfl
      exact ⟨acc2, hv2, ai2, q, i, _, rfl, rfl, h1, k2, k4, k5, k6, rfl, rfl⟩
    have hleft : ∀ (x0 x1 : Int) (c q : Nat) (acc hv ai : Int), RS [x0, x1] q acc hv ai → Con Try.prog 35 [.ptr 0 .z 4 0] [(.one 131 [.fn 80 [.ptr 1 .z 1 0, .ptr 2 .z 1 0], .int .u64 (acc), .int .i64 (hv), .fn 81 [.ptr 2 .z 1 0, .ptr 1 .z 1 0]]), .one 3 [.int .i64 ai], .one 23 [.slice 3 .z 1 2 c], .ro .u8 [x0, x1]]
        (fun v H R => (∃ f : Int, f = 16 - q ∧ v = .int .i64 f) ∧ R = [] ∧ H = [(.one 131 [.fn 80 [.ptr 1 .z 1 0, .ptr 2 .z 1 0], .int .u64 (acc), .int .i64 (hv), .fn 81 [.ptr 2 .z 1 0, .ptr 1 .z 1 0]]), .one 3 [.int .i64 ai], .one 23 [.slice 3 .z 1 2 c], .ro .u8 [x0, x1]]) := fun x0 x1 c q acc hv ai h => by
      refine (rleft_rs [x0, x1] q c acc hv ai (by simp) h).mono ?_
      rintro v H R ⟨rfl, rfl, rfl⟩
      exact ⟨⟨_, rfl, rfl⟩, rfl, rfl⟩
    refine con_gen (con_cut 1 (by simp) (con_drop (con_walk hmix fn7 ?_)))
    intro vb vc vw vtoN vofN vaddN vsubN vmaxI vminI vcutN vgd vst vln vrep vsub vonto vsplice vstrEq vbyteV vnotB veqB hw qb qc qw qtoN qofN qaddN qsubN qmaxI qminI qcutN qgd qst qln qrep qsub qonto qsplice qstrEq qbyteV qnotB qeqB
    have hm := hmix; generalize Try.prog = P at *
    have hn1 := hR.n1
    have hl15 := hR.l15
    generalize WL l = W at *
    generalize @RS = RSf at *
    generalize hn : l.length = n at *
    have h00 : vc .neq 0 0 = false := by rw [qc]; rfl
    have e00 : vc .eql 0 0 = true := by rw [qc]; rfl
    have hb : ∀ y : Int, isByte (vw .u8 y) := fun y => by rw [qw]; simp only [IntKind.wrap, IntKind.bits, IntKind.signed, isByte]; simp; omega
    have hto : ∀ i : Nat, vtoN (i : Int) = i := fun i => by simp only [qtoN, Int.toNat_natCast]
    have hadd0 : ∀ i, vaddN 0 i = i := fun i => by simp only [qaddN, Nat.zero_add]
    have hvl : vln l = n := by simp only [qln]; exact hn
    have hvgd : ∀ l i, vgd l i = l.getD i 0 := fun l i => by simp only [qgd]
    cbv
    refine call_con (ρ := [(0, .z)]) hcodes ⟨by rfl, by rfl, by rfl, by cbv; exact ⟨view_refl _, trivial⟩⟩ ?_
    rintro v H R js ⟨rfl, rfl, rfl⟩
    cbv
    rw [h00]
    cbv
    generalize hx0 : vw .u8 x = x0
    generalize hx1 : vw .u8 (vb .shr .u16 x 8) = x1
    have hb0 : isByte x0 := by rw [← hx0]; exact hb _
    have hb1 : isByte x1 := by rw [← hx1]; exact hb _
    refine call_con (ρ := [(2, .z)]) (hnew x0 x1) ⟨by rfl, by rfl, by rfl, by cbv; exact ⟨view_refl _, trivial⟩⟩ ?_
    rintro v H R js ⟨rfl, rfl, c, rfl⟩
    have hread1 := hread x0 x1 c hb0 hb1
    cbv
    refine call_con (ρ := [(6, .z), (5, .z), (4, .z), (3, .z), (0, .z)]) hread1 ⟨by rfl, by rfl, by rfl, by cbv; exact ⟨view_refl _, view_refl _, trivial⟩⟩ ?_
    rintro v H R js2 ⟨acc2, hv2, ai2, q, i, iI, hiI, rfl, hrs, hi, hg, hq1, hq2, rfl, rfl⟩
    have hleft1 := hleft x0 x1 c q acc2 hv2 ai2 hrs
    cbv
    simp only [nc] at hiI hg
    obtain ⟨y, hy⟩ : ∃ y : Int, l.getD i 0 = y := ⟨_, rfl⟩
    rw [hy] at hg
    have hti : vtoN iI = i := by rw [hiI]; exact hto i
    have hinR : 0 ≤ iI ∧ iI < (n : Int) := by omega
    have g1 : vc .geq iI 0 = true := by rw [qc, geq_eq]; simp only [decide_eq_true_eq]; omega
    have g2 : vc .lss iI (vofN n) = true := by rw [qc, lss_true]; simp only [qofN, nc]; omega
    have hu := hlu
    have g3 : vc .gtr y 0 = true := by rw [qc, gtr_true]; omega
    have ewy : vw .i64 y = y := by rw [qw]; exact wrap_i64 (by omega) (by omega)
    rw [e00]
    cbv
    rw [g1]
    cbv
    rw [g2]
    cbv
    rw [hti, hadd0, hvgd, hy, g3]
    refine ⟨⟨hinR⟩, ⟨by omega⟩, ⟨by omega⟩, ?_⟩
    cbv
    have hlt : i < vln l := by omega
    rw [hti, hadd0, hvgd, hy, ewy]
    refine ⟨⟨hinR⟩, ⟨hlt⟩, ⟨hlt⟩, ?_⟩
    refine call_con (ρ := [(6, .z), (5, .z), (4, .z), (3, .z)]) hleft1 ⟨by rfl, by rfl, by rfl, by cbv; exact ⟨view_refl _, trivial⟩⟩ ?_
    rintro v H R js3 ⟨⟨f, hf, rfl⟩, rfl, rfl⟩
    cbv
    simp only [nc] at hf hg hq1 hq2
    have es : vb .sub .i64 16 f = y := by rw [qb, sub_i64 (by omega) (by omega)]; omega
    have g4 : vc .eql y y = true := by rw [qc, eql_true]
    rw [es, g4]
    cbv
    refine ⟨⟨⟨hlt⟩, by rw [hvgd, hy]⟩, ⟨⟨hlt⟩, by rw [hvgd, hy]⟩, ?_⟩
    refine call_con (ρ := []) hwakes ⟨by rfl, by rfl, by rfl, by cbv⟩ ?_
    rintro v H R js4 ⟨rfl, rfl, rfl⟩
    cbv
    exact ⟨⟨⟨hlt⟩, by rw [hvgd, hy]⟩, ⟨⟨hlt⟩, by rw [hvgd, hy]⟩, trivial⟩
  · have hcodes := codes_bad l cap hlu hlen h5
    refine con_gen (con_cut 1 (by simp) (con_drop (con_walk hmix fn7 ?_)))
    intro vb vc vw vtoN vofN vaddN vsubN vmaxI vminI vcutN vgd vst vln vrep vsub vonto vsplice vstrEq vbyteV vnotB veqB hw qb qc qw qtoN qofN qaddN qsubN qmaxI qminI qcutN qgd qst qln qrep qsub qonto qsplice qstrEq qbyteV qnotB qeqB
    have hm := hmix; generalize Try.prog = P at *
    generalize hn : l.length = n at *
    have h50 : vc .neq 50 0 = true := by rw [qc]; rfl
    have e00 : vc .eql 0 0 = true := by rw [qc]; rfl
    cbv
    refine call_con (ρ := [(0, .z)]) hcodes ⟨by rfl, by rfl, by rfl, by cbv; exact ⟨view_refl _, trivial⟩⟩ ?_
    rintro v H R js ⟨rfl, rfl, rfl⟩
    cbv
    rw [h50]
    cbv
    refine call_con (ρ := []) hwakes ⟨by rfl, by rfl, by rfl, by cbv⟩ ?_
    rintro v H R js ⟨rfl, rfl, rfl⟩
    cbv
theorem own : ownKnob Try.prog.godebug = none := by kernel_rfl
set_option maxRecDepth 100000 in
theorem lifted (os : Os) (started : os.Started) (H : Type) (enc : TypeId × Value → H) :
    ReturnsInHanded {} Try.checked os 7 .any (Rows.canonWholeSpec.pre6 enc Try.prog Try.f7 Rows.canonWholeRow.domain false) (Rows.canonWholeSpec.post enc Try.prog Try.f7 false true false false) := by
  refine returnsInHanded_of_change (C := Try.checked) own started (by kernel_rfl) Try.func7
    (ChangeSpec.witness6 (enc := enc) (C := Try.checked) false ⟨#[], #[.slice none 0 0, .int .u16 0], []⟩ 8 (by kernel_rfl) (by kernel_rfl) (by kernel_rfl) (by kernel_rfl)) ?_
  intro W base args ds gs before hval0 hW hcnd _
  have hval : ∀ (j : Nat) t v, Try.f7.params[j]? = some t → args[j]? = some v → Value.okWide Try.prog W .any base t v := hval0
  have hW' := hW
  obtain ⟨p, q, hA0, hV, rfl, hfz, hnd⟩ := hW
  have hA : DataW.TrodAll enc Try.prog W 0 (fun _ => true) true Try.f7.params.toList args.toList ds p := hA0
  rw [Try.params7] at hA hval
  obtain ⟨v0, vs0, d0, ds0, p0, q0, hargs0, rfl, rfl, h0, r0⟩ := trodAll_cons hA
  obtain ⟨v1, vs1, d1, ds1, p1, q1, hargs1, rfl, rfl, h1, r1⟩ := trodAll_cons r0
  obtain ⟨rfl, rfl, rfl⟩ := trodAll_nil r1
  obtain rfl : args = #[v0, v1] := by cases args; simp_all
  obtain ⟨rfl, rfl⟩ := trodVars_none hV
  obtain ⟨s0, l0, cap0, rfl, lt0, ho0, hw0, hc0, hm0⟩ := arg_ints (P := Try.prog) Try.underlying23 Try.underlying5 (by kernel_rfl) (hval 0 23 v0 rfl rfl) h0
  obtain ⟨a1, rfl, rfl, rfl, w1⟩ := open_int Try.underlying48 (hval 1 48 v1 rfl rfl) h1
  refine (con_below (law_con l0 a1 cap0 (fun x hx => wf_u8 (hw0 x hx)) (by have : maxLen = 9223372036854775807 := rfl; omega)) (by intro B hB; simp at hB; subst hB; rfl) (ok_args [(s0, .ro .u8 l0)] (by intro e he; simp at he; subst he; exact ⟨lt0, rfl, ho0⟩))).mono fun e W' ⟨he, hb⟩ => ⟨_, he, ?_⟩
  exact law_post hW' rfl (by kernel_rfl) Try.underlying4 (by kernel_rfl) (by kernel_rfl) rfl rfl rfl hb

theorem over : Rows.canonWholeRow.holds Try.pinned (OpenSpec.ofChange Rows.canonWholeSpec) :=
  OpenClaim.holds_of_wide 7 Try.f7 rfl rfl rfl rfl rfl rfl rfl ⟨rfl, rfl, rfl, rfl, rfl⟩ rfl rfl rfl rfl rfl (by kernel_rfl) Try.func7 (by kernel_rfl)
    (of_decide_eq_true (by kernel_rfl)) (by unfold Func.isWrapper; first | (rw [if_pos (by decide +kernel)]; kernel_rfl) | (rw [if_neg (by decide +kernel)]; exact ⟨rfl, rfl⟩))
    (fun os started H enc _ => lifted os started H enc)

theorem proved : Rows.CanonWholeSaid :=
  over
#print axioms proved
end Go.Proofs.Ytodobmkflimfkaa.canonWhole
