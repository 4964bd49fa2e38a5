/-
  For all bytes, balerlaw09.WeightsRead returns true and leaves its argument as it was. No condition.
-/
import Derived.Test.YtaaklikigccdfaaA5
import Derived.Test.YtaaklikigccdfaaA3
namespace Go.Proofs.Ytaaklikigccdfaa.weightsRead
open Go Go.Sx Go.ChangeShapes Go.WideShapes Go.ChangeAt Go.RowKit Go.Deep
set_option linter.unusedVariables false
theorem wf_u8 {x : Int} (h : (Lit.int .u8 x).wf = true) : isU8 x := by
  simp [Lit.wf, IntKind.min, IntKind.max, IntKind.signed, IntKind.bits] at h
  unfold isU8
  omega
theorem isU8_byte {l : List Int} (h : ∀ c ∈ l, isU8 c) : ∀ c ∈ l, isByte c := fun c hc => by
  have := h c hc
  unfold isU8 at this
  unfold isByte
  omega
theorem strEq_self (l : List Int) : (List.map (fun n => UInt8.ofNat n.toNat) l == List.map (fun n => UInt8.ofNat n.toNat) l) = true := by simp
set_option maxHeartbeats 40000000 in
set_option maxRecDepth 10000 in
theorem law_con (b : List Int) (cap : Nat) (hb : ∀ c ∈ b, isByte c) (hbl : b.length ≤ 140737488355328) (hcap : b.length ≤ cap) (hcm : cap ≤ 9223372036854775807) :
    Con Try.prog 3 [.slice 0 .z 1 b.length cap] [.ro .u8 b] (fun v H R => v = .bool true ∧ H = [.ro .u8 b] ∧ R = []) := by
  have hwakes := wakes9_con
  have h6 := read9_con b cap hb hbl hcap hcm
  have h7 := refread9_con b cap hb hbl hcap hcm
  by_cases hgood : ¬ shortW b ∧ ∃ l, RdW 256 b l
  · obtain ⟨hs, l, hl⟩ := hgood
    have hl' := (RdW_iff b l).1 hl
    have g6 : Con Try.prog 6 [.slice 0 .z 1 b.length cap] [.ro .u8 b] (fun v H R => R = [] ∧ ∃ c, v = .tup [.slice 1 .z 1 l.length c, .int .i64 (1 + hnW b), .int .i64 0] ∧ H = [.ro .u8 b, .buf 5 .u8 l c]) := by
      refine h6.mono ?_
      rintro v H R ⟨h1, ⟨h2, _⟩ | ⟨_, h2, _⟩ | ⟨_, l2, c, h2, h3, h4⟩⟩
      · exact absurd h2 hs
      · exact absurd hl (h2 l)
      · obtain rfl := h2.uniq hl
        exact ⟨h1, c, h4, h3⟩
    have g7 : Con Try.prog 7 [.slice 0 .z 1 b.length cap] [.ro .u8 b] (fun v H R => R = [] ∧ ∃ c, v = .tup [.slice 1 .z 1 l.length c, .int .i64 (1 + hnW b), .int .i64 0] ∧ H = [.ro .u8 b, .buf 5 .u8 l c]) := by
      refine h7.mono ?_
      rintro v H R ⟨h1, ⟨h2, _⟩ | ⟨_, h2, _⟩ | ⟨_, l2, c, h2, h3, h4⟩⟩
      · exact absurd h2 hs
      · exact absurd hl' (h2 l)
      · obtain rfl := h2.uniq hl'
        exact ⟨h1, c, h4, h3⟩
    clear h6 h7
    generalize 1 + hnW b = n at *
    refine con_gen (con_cut 1 (by simp) (con_drop (con_walk hmix fn3 ?_)))
    intro vb vc vw vtoN vofN vaddN vsubN vmaxI vminI vcutN vgd vst vln vrep vsub vonto vsplice vstrEq vbyteV vnotB veqB hw qb qc qw qtoN qofN qaddN qsubN qmaxI qminI qcutN qgd qst qln qrep qsub qonto qsplice qstrEq qbyteV qnotB qeqB
    have hm := hmix; generalize Try.prog = P at *
    clear hl hl' hs
    generalize b.length = bl at *
    have e00 : vc .eql 0 0 = true := by rw [qc]; rfl
    have enn : vc .eql n n = true := by rw [qc, eql_true]
    have hstr : ∀ l, vstrEq l l = true := fun l => by rw [qstrEq]; exact strEq_self l
    have ha0 : ∀ n, vaddN 0 n = n := fun n => by simp only [qaddN, Nat.zero_add]
    have hlnq : ∀ l, vln l = l.length := fun l => by simp only [qln]
    have hsl : vsub l 0 l.length = l := by simp only [qsub]; simp
    generalize hln : l.length = ln at *
    cbv
    refine call_con (ρ := [(0, .z)]) g6 ⟨by rfl, by rfl, by rfl, by cbv; exact ⟨view_refl _, trivial⟩⟩ ?_
    rintro v H R js ⟨rfl, c1, rfl, rfl⟩
    cbv
    refine call_con (ρ := [(0, .z)]) g7 ⟨by rfl, by rfl, by rfl, by cbv; exact ⟨view_refl _, trivial⟩⟩ ?_
    rintro v H R js2 ⟨rfl, c2, rfl, rfl⟩
    cbv
    rw [e00]
    cbv
    refine ⟨⟨by rw [ha0, hlnq]; omega⟩, ⟨by rw [ha0, hlnq]; omega⟩, ?_⟩
    rw [hsl, hstr]
    cbv
    rw [enn]
    cbv
    refine call_con (ρ := []) hwakes ⟨by rfl, by rfl, by rfl, by cbv⟩ ?_
    rintro v H R js9 ⟨rfl, rfl, rfl⟩
    cbv
  · have hbad : ∃ e : Int, (Con Try.prog 6 [.slice 0 .z 1 b.length cap] [.ro .u8 b] (fun v H R => R = [] ∧ v = .tup [.val (.slice none 0 0), .int .i64 0, .int .i64 e] ∧ H = [.ro .u8 b])) ∧
        (Con Try.prog 7 [.slice 0 .z 1 b.length cap] [.ro .u8 b] (fun v H R => R = [] ∧ v = .tup [.val (.slice none 0 0), .int .i64 0, .int .i64 e] ∧ H = [.ro .u8 b])) := by
      by_cases hs : shortW b
      · refine ⟨10, h6.mono ?_, h7.mono ?_⟩
        · rintro v H R ⟨h1, ⟨_, h3, h4⟩ | ⟨h2, _⟩ | ⟨h2, _⟩⟩
          · exact ⟨h1, h4, h3⟩
          · exact absurd hs h2
          · exact absurd hs h2
        · rintro v H R ⟨h1, ⟨_, h3, h4⟩ | ⟨h2, _⟩ | ⟨h2, _⟩⟩
          · exact ⟨h1, h4, h3⟩
          · exact absurd hs h2
          · exact absurd hs h2
      · have hn : ∀ l, ¬ RdW 256 b l := fun l h => hgood ⟨hs, l, h⟩
        refine ⟨11, h6.mono ?_, h7.mono ?_⟩
        · rintro v H R ⟨h1, ⟨h2, _⟩ | ⟨_, _, h3, h4⟩ | ⟨_, l2, c, h2, _⟩⟩
          · exact absurd h2 hs
          · exact ⟨h1, h4, h3⟩
          · exact absurd h2 (hn l2)
        · rintro v H R ⟨h1, ⟨h2, _⟩ | ⟨_, _, h3, h4⟩ | ⟨_, l2, c, h2, _⟩⟩
          · exact absurd h2 hs
          · exact ⟨h1, h4, h3⟩
          · exact absurd ((RdW_iff b l2).2 h2) (hn l2)
    obtain ⟨e, g6, g7⟩ := hbad
    clear h6 h7 hgood
    refine con_gen (con_cut 1 (by simp) (con_drop (con_walk hmix fn3 ?_)))
    intro vb vc vw vtoN vofN vaddN vsubN vmaxI vminI vcutN vgd vst vln vrep vsub vonto vsplice vstrEq vbyteV vnotB veqB hw qb qc qw qtoN qofN qaddN qsubN qmaxI qminI qcutN qgd qst qln qrep qsub qonto qsplice qstrEq qbyteV qnotB qeqB
    have hm := hmix; generalize Try.prog = P at *
    generalize b.length = bl at *
    have e00 : vc .eql 0 0 = true := by rw [qc]; rfl
    have eee : vc .eql e e = true := by rw [qc, eql_true]
    have hstr : ∀ l, vstrEq l l = true := fun l => by rw [qstrEq]; exact strEq_self l
    cbv
    refine call_con (ρ := [(0, .z)]) g6 ⟨by rfl, by rfl, by rfl, by cbv; exact ⟨view_refl _, trivial⟩⟩ ?_
    rintro v H R js ⟨rfl, rfl, rfl⟩
    cbv
    refine call_con (ρ := [(0, .z)]) g7 ⟨by rfl, by rfl, by rfl, by cbv; exact ⟨view_refl _, trivial⟩⟩ ?_
    rintro v H R js2 ⟨rfl, rfl, rfl⟩
    cbv
    rw [eee]
    cbv
    rw [hstr]
    cbv
    rw [e00]
    cbv
    refine call_con (ρ := []) hwakes ⟨by rfl, by rfl, by rfl, by cbv⟩ ?_
    rintro v H R js9 ⟨rfl, rfl, rfl⟩
    cbv
/-- As arg_intsD, with the bound of the capacity. -/
theorem arg_intsM {H : Type} {enc : TypeId × Value → H} {P : Program} {W : World} {base : Nat} {r : Reach} {t e : TypeId} {k : IntKind} {v : Value} {d : DataW H} {ps : List MemPlace} (ht : P.underlying t = some (.slice e)) (he : P.underlying e = some (.int k)) (hc : P.cellsOf e = 1)
    (hval : Value.okWide P W r base t v) (hd : DataW.Trod enc P W 0 (fun _ => true) true t v d ps) :
    ∃ (p0 : Option (Nat × Nat)) (l : List Int) (cap : Nat), v = .slice (p0.map fun p => ⟨p.1, p.2, none⟩) l.length cap ∧ (∀ p, p0 = some p → p.1 < W.heap.size) ∧ (∀ σ, holds P σ p0 W (.ro k l)) ∧ (∀ x ∈ l, (Lit.int k x).wf = true) ∧
      l.length ≤ cap ∧ cap ≤ maxLen ∧ ((d = .nil ∧ l = []) ∨ ∃ rest, d = .slice (lits k l) rest) := by
  obtain ⟨p0, l, cap, rfl, h1, h2, h3, h4, h5⟩ := arg_intsD ht he hc hval hd
  obtain ⟨p1, l1, cap1, e1, _, _, _, _, h6⟩ := arg_ints ht he hc hval hd
  have e2 : cap = cap1 := by injection e1
  exact ⟨p0, l, cap, rfl, h1, h2, h3, h4, by omega, h5⟩
theorem own : ownKnob Try.prog.godebug = none := by kernel_rfl
set_option maxRecDepth 100000 in
theorem lifted (os : Os) (started : os.Started) (H : Type) (enc : TypeId × Value → H) :
    ReturnsInHanded {} Try.checked os 3 .any (Rows.weightsReadSpec.pre6 enc Try.prog Try.f3 Rows.weightsReadRow.domain false) (Rows.weightsReadSpec.post enc Try.prog Try.f3 false true false false) := by
  refine returnsInHanded_of_change_sized (C := Try.checked) own started (by kernel_rfl) Try.func3
    (ChangeSpec.witness6 (enc := enc) (C := Try.checked) false ⟨#[], #[.slice none 0 0], []⟩ 8 (by kernel_rfl) (by kernel_rfl) (by kernel_rfl) (by kernel_rfl)) ?_
  intro W base args ds gs before hval0 hW hcnd hz _
  have hval : ∀ (j : Nat) t v, Try.f3.params[j]? = some t → args[j]? = some v → Value.okWide Try.prog W .any base t v := hval0
  have hW' := hW
  obtain ⟨p, q, hA0, hV, rfl, hfz, hnd⟩ := hW
  have hA : DataW.TrodAll enc Try.prog W 0 (fun _ => true) true Try.f3.params.toList args.toList ds p := hA0
  rw [Try.params3] at hA hval
  obtain ⟨v0, vs0, d0, ds0, p0, q0, hargs0, rfl, rfl, h0, r0⟩ := trodAll_cons hA
  obtain ⟨rfl, rfl, rfl⟩ := trodAll_nil r0
  obtain rfl : args = #[v0] := by cases args; simp_all
  obtain ⟨rfl, rfl⟩ := trodVars_none hV
  obtain ⟨s0, l0, cap0, rfl, lt0, ho0, hw0, hc0, hm0, hd0⟩ := arg_intsM (P := Try.prog) Try.underlying22 Try.underlying5 (by kernel_rfl) (hval 0 22 v0 rfl rfl) h0
  have hb0 : l0.length * 1 ≤ 140737488351232 := by
    rcases hd0 with ⟨_, rfl⟩ | ⟨rest, rfl⟩
    · simp
    · have h := sized_slice hz (j := 0) (t := 22) (e := 5) rfl rfl Try.underlying22
      rw [show Try.checked.prog.bytesOf 5 = 1 by kernel_rfl, show reachBytes = 140737488351232 by rfl] at h
      simp only [lits, List.length_map] at h
      omega
  refine (con_below (law_con l0 cap0 (isU8_byte (fun c hc => wf_u8 (hw0 c hc))) (by omega) hc0 (by rw [show maxLen = 9223372036854775807 by rfl] at hm0; exact hm0)) (by intro B hB; simp at hB; subst hB; rfl) (ok_args [(s0, .ro .u8 l0)] (by intro e he; simp at he; subst he; exact ⟨lt0, rfl, ho0⟩))).mono fun e W' ⟨he, hb⟩ => ⟨_, he, ?_⟩
  exact law_post hW' rfl (by kernel_rfl) Try.underlying4 (by kernel_rfl) (by kernel_rfl) rfl rfl rfl hb

theorem over : Rows.weightsReadRow.holds Try.pinned (OpenSpec.ofChange Rows.weightsReadSpec) :=
  OpenClaim.holds_of_wide 3 Try.f3 rfl rfl rfl rfl rfl rfl rfl ⟨rfl, rfl, rfl, rfl, rfl⟩ rfl rfl rfl rfl rfl (by kernel_rfl) Try.func3 (by kernel_rfl)
    (of_decide_eq_true (by kernel_rfl)) (by unfold Func.isWrapper; first | (rw [if_pos (by decide +kernel)]; kernel_rfl) | (rw [if_neg (by decide +kernel)]; exact ⟨rfl, rfl⟩))
    (fun os started H enc _ => lifted os started H enc)

theorem proved : Rows.WeightsReadSaid :=
  over
#print axioms proved
end Go.Proofs.Ytaaklikigccdfaa.weightsRead
