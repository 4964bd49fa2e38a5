/-
  For all bytes and numbers, balerlaw19.SymbolsMap returns true and leaves its arguments as they were. No condition.
-/
import Derived.Test.YtkkddgdcmdnnmaaA2
import Derived.Test.YtkkddgdcmdnnmaaA5
import Derived.Test.YtkkddgdcmdnnmaaA7
import Derived.Test.YtkkddgdcmdnnmaaED
namespace Go.Proofs.Ytkkddgdcmdnnmaa.symbolsMap
open Go Go.Sx Go.ChangeShapes Go.WideShapes Go.ChangeAt Go.RowKit Go.Deep
set_option linter.unusedVariables false
theorem wf_u8 {x : Int} (h : (Lit.int .u8 x).wf = true) : isU8 x := by
  simp [Lit.wf, IntKind.min, IntKind.max, IntKind.signed, IntKind.bits] at h
  unfold isU8
  omega
theorem isU8_byte {b : List Int} (hb : ∀ c ∈ b, isU8 c) : ∀ x ∈ b, isByte x := fun x hx => by
  have := hb x hx
  unfold isU8 at this
  unfold isByte
  omega
set_option maxHeartbeats 40000000 in
set_option maxRecDepth 10000 in
theorem law_con (b : List Int) (cap : Nat) (trees size : Int) (hb8 : ∀ c ∈ b, isU8 c) (hbl0 : b.length ≤ 140737488355328) :
    Con Try.prog 5 [.slice 0 .z 1 b.length cap, .int .i64 trees, .int .i64 size] [.ro .u8 b] (fun v H R => v = .bool true ∧ H = [.ro .u8 b] ∧ R = []) := by
  have hby := isU8_byte hb8
  have hl : b.length ≤ 2 ^ 50 := by omega
  have hwakes := wakes14_con
  have c1 := rnew_con b cap hbl0
  have c2 := fun cap9 => countX10_con b 0 cap9 0 0 0 hby hl (RS.start b)
  have c3 := refcount_con b cap 0 0 hby hl (Nat.zero_le _) rfl
  have c4 := fun cap9 pos acc hv ai h hp => mapX9_con b pos cap9 acc hv ai trees size hby hl h hp
  have c5 := fun (pos : Nat) (pI : Int) hp hpI => refmap_con b cap pos pI trees size hby hl hp hpI
  have lf1 := fun pos cap9 acc hv ai lf h hlf => rleft18_con b pos cap9 acc hv ai lf hl h hlf
  have lf2 := fun cap9 pos pI lf hp hpI hlf => refleft19_con b cap9 pos pI lf hl hp hpI hlf
  obtain ⟨X, hX⟩ : ∃ X, X = countR b 0 := ⟨_, rfl⟩
  obtain ⟨Y, hY⟩ : ∃ Y : Nat → Except Int (List Int × Nat), Y = fun pos => (if (2 ≤ trees ∧ trees ≤ 256) ∧ 1 ≤ size ∧ size ≤ 16384 then mapR b trees size pos else .error 2) := ⟨_, rfl⟩
  have c4 : ∀ cap9 pos acc hv ai, RS b pos acc hv ai → pos ≤ 8 * b.length → Con Try.prog 9 [.ptr 0 .z 4 0, .int .i64 trees, .int .i64 size] [(.one 81 [.fn 39 [.ptr 1 .z 1 0, .ptr 2 .z 1 0], .int .u64 acc, .int .i64 hv, .fn 40 [.ptr 2 .z 1 0, .ptr 1 .z 1 0]]), .one 3 [.int .i64 ai], .one 22 [.slice 3 .z 1 b.length cap9], .ro .u8 b] (MapPost2 b (Y pos) 4 (fun acc hv ai => [(.one 81 [.fn 39 [.ptr 1 .z 1 0, .ptr 2 .z 1 0], .int .u64 acc, .int .i64 hv, .fn 40 [.ptr 2 .z 1 0, .ptr 1 .z 1 0]]), .one 3 [.int .i64 ai], .one 22 [.slice 3 .z 1 b.length cap9], .ro .u8 b])) := fun cap9 pos acc hv ai h hp => by rw [hY]; exact c4 cap9 pos acc hv ai h hp
  have c5 : ∀ (pos : Nat) (pI : Int), pos ≤ 8 * b.length → pI = pos → Con Try.prog 21 [.ptr 0 .z 2 0, .int .i64 trees, .int .i64 size] [.one 41 [.slice 1 .z 1 b.length cap, .int .i64 pI], .ro .u8 b] (RefMap b (Y pos) (fun pI => [.one 41 [.slice 1 .z 1 b.length cap, .int .i64 pI], .ro .u8 b])) := fun pos pI hp hpI => by rw [hY]; exact c5 pos pI hp hpI
  rw [← hX] at c2 c3
  clear hX hY
  refine con_gen (con_cut 1 (by simp) (con_drop (con_walk hmix fn5 ?_)))
  intro vb vc vw vtoN vofN vaddN vsubN vmaxI vminI vcutN vgd vst vln vrep vsub vonto vsplice vstrEq vbyteV vnotB veqB hw qb qc qw qtoN qofN qaddN qsubN qmaxI qminI qcutN qgd qst qln qrep qsub qonto qsplice qstrEq qbyteV qnotB qeqB
  have hm := hmix; generalize Try.prog = P at *
  obtain ⟨bl, hbl⟩ : ∃ bl, bl = b.length := ⟨_, rfl⟩
  unfold CountPost at c2
  unfold MapPost2 at c4
  unfold RefMap at c5
  simp only [← hbl] at c1 c2 c3 c4 c5 lf1 lf2 ⊢
  have e00 : vc .neq 0 0 = false := by rw [qc]; rfl
  have ez0 : vc .eql 0 0 = true := by rw [qc]; rfl
  have enn : ∀ s, vc .neq s s = false := fun s => by rw [qc, neq_false]; exact fun h => h rfl
  have eqq : ∀ s, vc .eql s s = true := fun s => by rw [qc, eql_true]
  have hstr : ∀ s, vstrEq s s = true := fun s => by rw [qstrEq]; simp
  clear hbl
  cbv
  refine call_con (ρ := [(0, .z)]) c1 ⟨by rfl, by rfl, by rfl, by cbv; exact ⟨view_refl _, trivial⟩⟩ ?_
  rintro v H R js ⟨rfl, rfl, cap9, rfl⟩
  have c2 := c2 cap9
  cbv
  refine call_con (ρ := [(4, .z), (3, .z), (2, .z), (1, .z)]) c2 ⟨by rfl, by rfl, by rfl, by cbv; exact ⟨view_refl _, trivial⟩⟩ ?_
  rintro v H R js2 ⟨rfl, acc, hv, ai, rfl, ⟨e, hXe, rfl⟩ | ⟨x, q, hXe, hRS, rfl⟩⟩
  · cbv
    refine call_con (ρ := [(5, .z), (0, .z)]) c3 ⟨by rfl, by rfl, by rfl, by cbv; exact ⟨view_refl _, trivial⟩⟩ ?_
    rintro v H R js3 ⟨rfl, q2, qI, hq, hq8, rfl, ⟨x2, hX2, rfl⟩ | ⟨e2, z, hX2, he0, he1, rfl⟩⟩
    · rw [hXe] at hX2; cases hX2
    rw [hXe] at hX2
    have he2 : e = e2 := by cases hX2; rfl
    subst he2
    have en0 : vc .neq e 0 = true := by rw [qc, neq_true]; omega
    have eq0 : vc .eql e 0 = false := by rw [qc, eql_false]; omega
    cbv
    rw [enn]
    cbv
    rw [eq0]
    cbv
    rw [en0]
    cbv
    refine call_con (ρ := []) hwakes ⟨by rfl, by rfl, by rfl, by cbv⟩ ?_
    rintro v H R js5 ⟨rfl, rfl, rfl⟩
    cbv
  · cbv
    refine call_con (ρ := [(5, .z), (0, .z)]) c3 ⟨by rfl, by rfl, by rfl, by cbv; exact ⟨view_refl _, trivial⟩⟩ ?_
    rintro v H R js3 ⟨rfl, q2, qI, hq, hq8, rfl, ⟨x2, hX2, rfl⟩ | ⟨e2, z, hX2, he0, he1, rfl⟩⟩
    rotate_left
    · rw [hXe] at hX2; cases hX2
    rw [hXe] at hX2
    have he2 : x = x2 ∧ q = q2 := by cases hX2; exact ⟨rfl, rfl⟩
    obtain ⟨rfl, rfl⟩ := he2
    have c4 := c4 cap9 q acc hv ai hRS hq8
    have c5 := c5 q qI hq8 hq
    cbv
    rw [e00]
    cbv
    rw [ez0]
    cbv
    rw [enn]
    cbv
    rw [e00]
    cbv
    refine call_con (ρ := [(4, .z), (3, .z), (2, .z), (1, .z)]) c4 ⟨by rfl, by rfl, by rfl, by cbv; exact ⟨view_refl _, trivial⟩⟩ ?_
    rintro v H R js4 ⟨rfl, a, h, i, ⟨e, hYe, rfl, rfl⟩ | ⟨L, q3, hYe, hRS3, cp, cq, rfl, rfl⟩⟩
    · cbv
      refine call_con (ρ := [(5, .z), (0, .z)]) c5 ⟨by rfl, by rfl, by rfl, by cbv; exact ⟨view_refl _, trivial⟩⟩ ?_
      rintro v H R js5 ⟨rfl, q4, qI4, hq4, hq48, ⟨L, cp, cq, hY2, rfl, rfl⟩ | ⟨e2, hY2, he0, he1, rfl, rfl⟩⟩
      · rw [hYe] at hY2; cases hY2
      rw [hYe] at hY2
      have he2 : e = e2 := by cases hY2; rfl
      subst he2
      have en0 : vc .neq e 0 = true := by rw [qc, neq_true]; omega
      cbv
      rw [eqq]
      cbv
      rw [hstr]
      cbv
      rw [en0]
      cbv
      refine call_con (ρ := []) hwakes ⟨by rfl, by rfl, by rfl, by cbv⟩ ?_
      rintro v H R js6 ⟨rfl, rfl, rfl⟩
      cbv
    · obtain ⟨ll, hll⟩ : ∃ ll, ll = L.length := ⟨_, rfl⟩
      rw [← hll]
      cbv
      refine call_con (ρ := [(5, .z), (0, .z)]) c5 ⟨by rfl, by rfl, by rfl, by cbv; exact ⟨view_refl _, trivial⟩⟩ ?_
      rintro v H R js5 ⟨rfl, q4, qI4, hq4, hq48, ⟨L2, cp2, cq2, hY2, rfl, rfl⟩ | ⟨e2, hY2, he0, he1, rfl, rfl⟩⟩
      rotate_left
      · rw [hYe] at hY2; cases hY2
      rw [hYe] at hY2
      have he2 : L = L2 ∧ q3 = q4 := by cases hY2; exact ⟨rfl, rfl⟩
      obtain ⟨rfl, rfl⟩ := he2
      rw [← hll]
      have hvl : vln L = ll := by rw [qln]; exact hll.symm
      have ha0 : ∀ i, vaddN 0 i = i := fun i => by rw [qaddN]; simp
      obtain ⟨lf, hlf⟩ : ∃ lf : Int, lf = 8 * (bl : Int) - (q3 : Int) := ⟨_, rfl⟩
      have c18 := lf1 q3 cap9 a h i lf hRS3 hlf
      have c19 := lf2 cap q3 qI4 lf hq48 hq4 hlf
      cbv
      rw [ez0]
      cbv
      refine ⟨⟨by rw [ha0, hvl]; exact Nat.le_refl _⟩, ⟨by rw [ha0, hvl]; exact Nat.le_refl _⟩, ?_⟩
      rw [hstr]
      cbv
      rw [e00]
      cbv
      refine call_con (ρ := [(4, .z), (3, .z), (2, .z), (1, .z)]) c18 ⟨by rfl, by rfl, by rfl, by cbv; exact ⟨view_refl _, trivial⟩⟩ ?_
      rintro v H R js7 ⟨rfl, rfl, rfl⟩
      cbv
      refine call_con (ρ := [(5, .z), (0, .z)]) c19 ⟨by rfl, by rfl, by rfl, by cbv; exact ⟨view_refl _, trivial⟩⟩ ?_
      rintro v H R js8 ⟨rfl, rfl, rfl⟩
      cbv
      rw [eqq]
      cbv
      refine call_con (ρ := []) hwakes ⟨by rfl, by rfl, by rfl, by cbv⟩ ?_
      rintro v H R js6 ⟨rfl, rfl, rfl⟩
      cbv
theorem own : ownKnob Try.prog.godebug = none := by kernel_rfl
set_option maxRecDepth 100000 in
theorem lifted (os : Os) (started : os.Started) (H : Type) (enc : TypeId × Value → H) :
    ReturnsInHanded {} Try.checked os 5 .any (Rows.symbolsMapSpec.pre6 enc Try.prog Try.f5 Rows.symbolsMapRow.domain false) (Rows.symbolsMapSpec.post enc Try.prog Try.f5 false true false false) := by
  refine returnsInHanded_of_change_sized (C := Try.checked) own started (by kernel_rfl) Try.func5
    (ChangeSpec.witness6 (enc := enc) (C := Try.checked) false ⟨#[], #[.slice none 0 0, .int .i64 0, .int .i64 0], []⟩ 8 (by kernel_rfl) (by kernel_rfl) (by kernel_rfl) (by kernel_rfl)) ?_
  intro W base args ds gs before hval0 hW hcnd hz _
  have hval : ∀ (j : Nat) t v, Try.f5.params[j]? = some t → args[j]? = some v → Value.okWide Try.prog W .any base t v := hval0
  have hW' := hW
  obtain ⟨p, q, hA0, hV, rfl, hfz, hnd⟩ := hW
  have hA : DataW.TrodAll enc Try.prog W 0 (fun _ => true) true Try.f5.params.toList args.toList ds p := hA0
  rw [Try.params5] at hA hval
  obtain ⟨v0, vs0, d0, ds0, p0, q0, hargs0, rfl, rfl, h0, r0⟩ := trodAll_cons hA
  obtain ⟨v1, vs1, d1, ds1, p1, q1, hargs1, rfl, rfl, h1, r1⟩ := trodAll_cons r0
  obtain ⟨v2, vs2, d2, ds2, p2, q2, hargs2, rfl, rfl, h2, r2⟩ := trodAll_cons r1
  obtain ⟨rfl, rfl, rfl⟩ := trodAll_nil r2
  obtain rfl : args = #[v0, v1, v2] := by cases args; simp_all
  obtain ⟨rfl, rfl⟩ := trodVars_none hV
  obtain ⟨s0, l0, cap0, rfl, lt0, ho0, hw0, hc0, hd0⟩ := arg_intsD (P := Try.prog) Try.underlying22 Try.underlying5 (by kernel_rfl) (hval 0 22 v0 rfl rfl) h0
  obtain ⟨a1, rfl, rfl, rfl, w1⟩ := open_int Try.underlying3 (hval 1 3 v1 rfl rfl) h1
  obtain ⟨a2, rfl, rfl, rfl, w2⟩ := open_int Try.underlying3 (hval 2 3 v2 rfl rfl) h2
  have hb0 : l0.length * 1 ≤ 140737488351232 := by
    rcases hd0 with ⟨_, rfl⟩ | ⟨rest, rfl⟩
    · simp
    · have h := sized_slice hz (j := 0) (t := 22) (e := 5) rfl rfl Try.underlying22
      rw [show Try.checked.prog.bytesOf 5 = 1 by kernel_rfl, show reachBytes = 140737488351232 by rfl] at h
      simp only [lits, List.length_map] at h
      omega
  refine (con_below (law_con l0 cap0 a1 a2 (fun c hc => wf_u8 (hw0 c hc)) (by omega)) (by intro B hB; simp at hB; subst hB; rfl) (ok_args [(s0, .ro .u8 l0)] (by intro e he; simp at he; subst he; exact ⟨lt0, rfl, ho0⟩))).mono fun e W' ⟨he, hb⟩ => ⟨_, he, ?_⟩
  exact law_post hW' rfl (by kernel_rfl) Try.underlying4 (by kernel_rfl) (by kernel_rfl) rfl rfl rfl hb

theorem over : Rows.symbolsMapRow.holds Try.pinned (OpenSpec.ofChange Rows.symbolsMapSpec) :=
  OpenClaim.holds_of_wide 5 Try.f5 rfl rfl rfl rfl rfl rfl rfl ⟨rfl, rfl, rfl, rfl, rfl⟩ rfl rfl rfl rfl rfl (by kernel_rfl) Try.func5 (by kernel_rfl)
    (of_decide_eq_true (by kernel_rfl)) (by unfold Func.isWrapper; first | (rw [if_pos (by decide +kernel)]; kernel_rfl) | (rw [if_neg (by decide +kernel)]; exact ⟨rfl, rfl⟩))
    (fun os started H enc _ => lifted os started H enc)

theorem proved : Rows.SymbolsMapSaid :=
  over
#print axioms proved
end Go.Proofs.Ytkkddgdcmdnnmaa.symbolsMap
