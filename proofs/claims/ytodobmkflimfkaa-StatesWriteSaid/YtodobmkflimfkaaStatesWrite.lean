/-
  For every row of counts and every log, balerlaw07.StatesWrite returns true and leaves its argument as it was. No condition.
-/
import Derived.Test.YtodobmkflimfkaaSD
namespace Go.Proofs.Ytodobmkflimfkaa.statesWrite
open Go Go.Sx Go.ChangeShapes Go.WideShapes Go.ChangeAt Go.RowKit
set_option linter.unusedVariables false
theorem wf_i16 {x : Int} (h : (Lit.int .i16 x).wf = true) : isI16 x := by
  simp [Lit.wf, IntKind.min, IntKind.max, IntKind.signed, IntKind.bits] at h
  unfold isI16
  omega
theorem renL3 (ρ : List (Nat × Ix)) (n : Nat) (k1 k2 k3 : IntKind) (a b c : Int) : renL ρ n [.int k1 a, .int k2 b, .int k3 c] = [.int k1 a, .int k2 b, .int k3 c] := rfl
set_option maxHeartbeats 8000000 in
set_option maxRecDepth 10000 in
theorem law_con (l : List Int) (log : Int) (cap : Nat) (hl : ∀ c ∈ l, isI16 c) (hlog : -9223372036854775808 ≤ log ∧ log ≤ 9223372036854775807) :
    Con Try.prog 4 [.slice 0 .z 1 l.length cap, .int .i64 log] [.ro .i16 l] (fun v H R => v = .bool true ∧ H = [.ro .i16 l] ∧ R = []) := by
  have hwakes := wakes_con
  by_cases hR : Right l log
  · have h1 := write_ok l log cap hl hlog hR
    have h2 := refwrite_ok l log cap hl hlog hR
    have h3 := table_ok l log cap hl hlog hR
    have h4 := reftable_ok l log cap hl hlog hR
    have hN : (2 ^ log.toNat : Int).toNat ≤ 4096 := by have := (pow_log ⟨hR.1, hR.2.1⟩).2; omega
    have hc := cells_con (2 ^ log.toNat : Int).toNat hN (symT l (2 ^ log.toNat)) (tabB l log (2 ^ log.toNat) (2 ^ log.toNat : Int).toNat) (tabC l log (2 ^ log.toNat) (2 ^ log.toNat : Int).toNat)
      (tabA l (2 ^ log.toNat) (2 ^ log.toNat : Int).toNat) _ _ (fun m hm => by unfold tabA; rw [if_pos hm]) (fun _ _ => rfl) (fun _ _ => rfl)
    refine con_gen (con_cut 1 (by simp) (con_drop (con_walk hmix fn4 ?_)))
    intro vb vc vw vtoN vofN vaddN vsubN vmaxI vminI vcutN vgd vst vln vrep vsub vonto vsplice vstrEq vbyteV vnotB veqB hw qb qc qw qtoN qofN qaddN qsubN qmaxI qminI qcutN qgd qst qln qrep qsub qonto qsplice qstrEq qbyteV qnotB qeqB
    have hm := hmix; generalize Try.prog = P at *
    generalize symT l (2 ^ log.toNat) = sy at *
    generalize tabA l (2 ^ log.toNat) (2 ^ log.toNat : Int).toNat = tA at *
    generalize tabB l log (2 ^ log.toNat) (2 ^ log.toNat : Int).toNat = tB at *
    generalize tabC l log (2 ^ log.toNat) (2 ^ log.toNat : Int).toNat = tC at *
    generalize (2 ^ log.toNat : Int).toNat = N at *
    have hpk : ∀ l' n' m', WS (wbits l log) l' n' m' → l' = pack (wbits l log) ∧ n' = (pack (wbits l log)).length := fun l' n' m' h => ⟨h.2.1, by rw [h.2.2.1, h.2.1]⟩
    generalize WS (wbits l log) = WW at *
    generalize pack (wbits l log) = pk at *
    generalize hpl : pk.length = pl at *
    generalize l.length = n at *
    have hle : vaddN 0 pl ≤ vln pk := by simp only [qaddN, qln]; omega
    have hse : vstrEq (vsub pk 0 pl) (vsub pk 0 pl) = true := by simp only [qstrEq]; simp
    have h00 : vc .eql 0 0 = true := by rw [qc]; rfl
    cbv
    refine call_con (ρ := [(0, .z)]) h1 ⟨by rfl, by rfl, by rfl, by cbv; exact ⟨view_refl _, trivial⟩⟩ ?_
    rintro v H R js ⟨rfl, l', n', m', c, c', hws, rfl, rfl⟩
    obtain ⟨rfl, rfl⟩ := hpk _ _ _ hws
    cbv
    refine call_con (ρ := [(0, .z)]) h2 ⟨by rfl, by rfl, by rfl, by cbv; exact ⟨view_refl _, trivial⟩⟩ ?_
    rintro v H R js2 ⟨rfl, bs, n2, c2, rfl, rfl⟩
    cbv
    refine call_con (ρ := [(0, .z)]) h3 ⟨by rfl, by rfl, by rfl, by cbv; exact ⟨view_refl _, trivial⟩⟩ ?_
    rintro v H R js3 ⟨rfl, rfl, rfl⟩
    cbv
    simp only [renL3]
    refine ⟨fun _ => rfl, ?_⟩
    refine call_con (ρ := [(0, .z)]) h4 ⟨by rfl, by rfl, by rfl, by cbv; exact ⟨fun _ => rfl, view_refl _, trivial⟩⟩ ?_
    rintro v H R js4 ⟨rfl, syl, rfl, rfl⟩
    cbv
    simp only [renL3]
    refine ⟨fun _ => rfl, fun _ => rfl, ?_⟩
    rw [h00]
    cbv
    refine ⟨⟨hle⟩, ⟨hle⟩, ?_⟩
    rw [hse]
    cbv
    rw [h00]
    cbv
    refine call_con (ρ := [(7, .z), (9, .z)]) hc ⟨by rfl, by rfl, by rfl, by cbv; exact ⟨fun _ => rfl, fun _ => rfl, ⟨rfl, trivial⟩, fun _ => rfl, ⟨rfl, trivial⟩, fun _ => rfl, trivial⟩⟩ ?_
    rintro v H R js5 ⟨rfl, rfl, rfl⟩
    cbv
    simp only [renL3]
    refine ⟨fun _ => rfl, fun _ => rfl, fun _ => rfl, fun _ => rfl, ?_⟩
    refine call_con (ρ := []) hwakes ⟨by rfl, by rfl, by rfl, by cbv; exact ⟨fun _ => rfl, fun _ => rfl, trivial⟩⟩ ?_
    rintro v H R js6 ⟨rfl, rfl, rfl⟩
    cbv
    exact ⟨fun _ => rfl, fun _ => rfl, trivial⟩
  · have h1 := write_bad l log cap hl hlog hR
    have h2 := refwrite_bad l log cap hl hlog hR
    have h3 := table_bad l log cap hl hlog hR
    have h4 := reftable_bad l log cap hl hlog hR
    have h5 := cells_nil
    refine con_gen (con_cut 1 (by simp) (con_drop (con_walk hmix fn4 ?_)))
    intro vb vc vw vtoN vofN vaddN vsubN vmaxI vminI vcutN vgd vst vln vrep vsub vonto vsplice vstrEq vbyteV vnotB veqB hw qb qc qw qtoN qofN qaddN qsubN qmaxI qminI qcutN qgd qst qln qrep qsub qonto qsplice qstrEq qbyteV qnotB qeqB
    have hm := hmix; generalize Try.prog = P at *
    generalize l.length = n at *
    have h70 : vc .eql 70 70 = true := by rw [qc]; rfl
    have hse : vstrEq [] [] = true := by simp only [qstrEq]; rfl
    cbv
    refine call_con (ρ := [(0, .z)]) h1 ⟨by rfl, by rfl, by rfl, by cbv; exact ⟨view_refl _, trivial⟩⟩ ?_
    rintro v H R js ⟨rfl, rfl, rfl⟩
    cbv
    refine call_con (ρ := [(0, .z)]) h2 ⟨by rfl, by rfl, by rfl, by cbv; exact ⟨view_refl _, trivial⟩⟩ ?_
    rintro v H R js2 ⟨rfl, rfl, rfl⟩
    cbv
    refine call_con (ρ := [(0, .z)]) h3 ⟨by rfl, by rfl, by rfl, by cbv; exact ⟨view_refl _, trivial⟩⟩ ?_
    rintro v H R js3 ⟨rfl, rfl, rfl⟩
    cbv
    refine call_con (ρ := [(0, .z)]) h4 ⟨by rfl, by rfl, by rfl, by cbv; exact ⟨view_refl _, trivial⟩⟩ ?_
    rintro v H R js4 ⟨rfl, rfl, rfl⟩
    cbv
    rw [h70]
    cbv
    rw [hse]
    cbv
    rw [h70]
    cbv
    refine call_con (ρ := []) h5 ⟨by rfl, by rfl, by rfl, by cbv⟩ ?_
    rintro v H R js4 ⟨rfl, rfl, rfl⟩
    cbv
    refine call_con (ρ := []) hwakes ⟨by rfl, by rfl, by rfl, by cbv⟩ ?_
    rintro v H R js4 ⟨rfl, rfl, rfl⟩
    cbv
theorem own : ownKnob Try.prog.godebug = none := by kernel_rfl
set_option maxRecDepth 100000 in
theorem lifted (os : Os) (started : os.Started) (H : Type) (enc : TypeId × Value → H) :
    ReturnsInHanded {} Try.checked os 4 .any (Rows.statesWriteSpec.pre6 enc Try.prog Try.f4 Rows.statesWriteRow.domain false) (Rows.statesWriteSpec.post enc Try.prog Try.f4 false true false false) := by
  refine returnsInHanded_of_change (C := Try.checked) own started (by kernel_rfl) Try.func4
    (ChangeSpec.witness6 (enc := enc) (C := Try.checked) false ⟨#[], #[.slice none 0 0, .int .i64 0], []⟩ 8 (by kernel_rfl) (by kernel_rfl) (by kernel_rfl) (by kernel_rfl)) ?_
  intro W base args ds gs before hval0 hW hcnd _
  have hval : ∀ (j : Nat) t v, Try.f4.params[j]? = some t → args[j]? = some v → Value.okWide Try.prog W .any base t v := hval0
  have hW' := hW
  obtain ⟨p, q, hA0, hV, rfl, hfz, hnd⟩ := hW
  have hA : DataW.TrodAll enc Try.prog W 0 (fun _ => true) true Try.f4.params.toList args.toList ds p := hA0
  rw [Try.params4] at hA hval
  obtain ⟨v0, vs0, d0, ds0, p0, q0, hargs0, rfl, rfl, h0, r0⟩ := trodAll_cons hA
  obtain ⟨v1, vs1, d1, ds1, p1, q1, hargs1, rfl, rfl, h1, r1⟩ := trodAll_cons r0
  obtain ⟨rfl, rfl, rfl⟩ := trodAll_nil r1
  obtain rfl : args = #[v0, v1] := by cases args; simp_all
  obtain ⟨rfl, rfl⟩ := trodVars_none hV
  obtain ⟨s0, l0, cap0, rfl, lt0, ho0, hw0, hc0, hm0⟩ := arg_ints (P := Try.prog) Try.underlying34 Try.underlying47 (by kernel_rfl) (hval 0 34 v0 rfl rfl) h0
  obtain ⟨a1, rfl, rfl, rfl, w1⟩ := open_int Try.underlying3 (hval 1 3 v1 rfl rfl) h1
  refine (con_below (law_con l0 a1 cap0 (fun x hx => wf_i16 (hw0 x hx)) (wf_i64 w1)) (by intro B hB; simp at hB; subst hB; rfl) (ok_args [(s0, .ro .i16 l0)] (by intro e he; simp at he; subst he; exact ⟨lt0, rfl, ho0⟩))).mono fun e W' ⟨he, hb⟩ => ⟨_, he, ?_⟩
  exact law_post hW' rfl (by kernel_rfl) Try.underlying4 (by kernel_rfl) (by kernel_rfl) rfl rfl rfl hb

theorem over : Rows.statesWriteRow.holds Try.pinned (OpenSpec.ofChange Rows.statesWriteSpec) :=
  OpenClaim.holds_of_wide 4 Try.f4 rfl rfl rfl rfl rfl rfl rfl ⟨rfl, rfl, rfl, rfl, rfl⟩ rfl rfl rfl rfl rfl (by kernel_rfl) Try.func4 (by kernel_rfl)
    (of_decide_eq_true (by kernel_rfl)) (by unfold Func.isWrapper; first | (rw [if_pos (by decide +kernel)]; kernel_rfl) | (rw [if_neg (by decide +kernel)]; exact ⟨rfl, rfl⟩))
    (fun os started H enc _ => lifted os started H enc)

theorem proved : Rows.StatesWriteSaid :=
  over
#print axioms proved
end Go.Proofs.Ytodobmkflimfkaa.statesWrite
