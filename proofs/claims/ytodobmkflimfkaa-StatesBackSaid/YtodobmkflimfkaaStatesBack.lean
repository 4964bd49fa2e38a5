/-
  For every row of counts, every log and all bytes behind, balerlaw07.StatesBack returns true and leaves its arguments as they were. No condition.
-/
import Derived.Test.YtodobmkflimfkaaSE
namespace Go.Proofs.Ytodobmkflimfkaa.statesBack
open Go Go.Sx Go.ChangeShapes Go.WideShapes Go.ChangeAt Go.RowKit
set_option linter.unusedVariables false
theorem wf_i16 {x : Int} (h : (Lit.int .i16 x).wf = true) : isI16 x := by
  simp [Lit.wf, IntKind.min, IntKind.max, IntKind.signed, IntKind.bits] at h
  unfold isI16
  omega
set_option maxHeartbeats 8000000 in
set_option maxRecDepth 10000 in
theorem law_con (l : List Int) (log : Int) (be : List Int) (cap cap2 : Nat) (hl : ∀ c ∈ l, isI16 c) (hlog : -9223372036854775808 ≤ log ∧ log ≤ 9223372036854775807) (hbe : ∀ x ∈ be, isByte x) (hlen : be.length ≤ 140737488354000) :
    Con Try.prog 5 [.slice 0 .z 1 l.length cap, .int .i64 log, .slice 1 .z 1 be.length cap2] [.ro .i16 l, .ro .u8 be] (fun v H R => v = .bool true ∧ H = [.ro .i16 l, .ro .u8 be] ∧ R = []) := by
  have hwakes := wakes_con
  by_cases hR : Right l log
  · have h1 := write_ok l log cap hl hlog hR
    have hpkl := pack_wbits hR
    have hpb := pack_byte (wbits l log) (wbits_bit l log)
    have h2 := fun c => read_ok (pack (wbits l log) ++ be) c 12 255 (fun x hx => (List.mem_append.1 hx).elim (hpb x) (hbe x)) (by rw [List.length_append]; omega) (by decide) (by decide) l log _ (readR_back hR be)
    have h3 := fun c1 c2 => same_con l c1 c2 (by have := hR.2.2.2.1; omega)
    refine con_gen (con_cut 2 (by simp) (con_drop (con_walk hmix fn5 ?_)))
    intro vb vc vw vtoN vofN vaddN vsubN vmaxI vminI vcutN vgd vst vln vrep vsub vonto vsplice vstrEq vbyteV vnotB veqB hw qb qc qw qtoN qofN qaddN qsubN qmaxI qminI qcutN qgd qst qln qrep qsub qonto qsplice qstrEq qbyteV qnotB qeqB
    have hm := hmix; generalize Try.prog = P at *
    have hpk : ∀ l' n' m', WS (wbits l log) l' n' m' → l' = pack (wbits l log) ∧ n' = (pack (wbits l log)).length := fun l' n' m' h => ⟨h.2.1, by rw [h.2.2.1, h.2.1]⟩
    generalize WS (wbits l log) = WW at *
    generalize pack (wbits l log) = pk at *
    have hsum : (pk ++ be).length = pk.length + be.length := List.length_append
    have hofn : ∀ n, vofN n = (n : Int) := fun n => by simp only [qofN]
    have hp1 : vonto [] 0 (vsub pk 0 pk.length) = pk := by simp only [qonto, qsub]; simp
    have hp2 : vonto pk pk.length (vsub be 0 be.length) = pk ++ be := by simp only [qonto, qsub]; simp
    have ha0 : ∀ n, vaddN 0 n = n := fun n => by simp only [qaddN, Nat.zero_add]
    have ha1 : vaddN pk.length be.length = pk.length + be.length := by simp only [qaddN]
    have hln : ∀ l, vln l = l.length := fun l => by simp only [qln]
    have hself : ∀ x, vc .eql x x = true := fun x => by rw [qc, eql_true]
    have h00 : vc .neq 0 0 = false := by rw [qc]; rfl
    rw [hsum] at h2
    generalize hpl : pk.length = pl at *
    generalize hbl : be.length = bl at *
    generalize hnl : l.length = n at *
    generalize hpbe : pk ++ be = pb at *
    obtain ⟨tl, htl⟩ : ∃ tl : Nat, tl = pl + bl := ⟨_, rfl⟩
    rw [← htl] at ha1 h2
    obtain ⟨pli, hpli⟩ : ∃ pli : Int, pli = (pl : Int) := ⟨_, rfl⟩
    rw [← hpli] at h2
    have hofp : vofN pl = pli := by rw [hofn, hpli]
    cbv
    refine call_con (ρ := [(0, .z)]) h1 ⟨by rfl, by rfl, by rfl, by cbv; exact ⟨view_refl _, trivial⟩⟩ ?_
    rintro v H R js ⟨rfl, l', n', m', c, c', hws, rfl, rfl⟩
    obtain ⟨rfl, rfl⟩ := hpk _ _ _ hws
    cbv
    rw [h00]
    cbv
    refine ⟨⟨by rw [ha0, hln]; omega⟩, ⟨Nat.zero_le _⟩, ⟨Nat.zero_le _⟩, ⟨by rw [ha0]; omega⟩, ?_⟩
    intro c1 js1 hle1
    cbv
    rw [hp1, ha0 n', ha0 bl]
    refine ⟨⟨by rw [hln]; omega⟩, ⟨by rw [hln]; omega⟩, ⟨Nat.le_refl _⟩, ⟨by rw [ha1]; omega⟩, ?_⟩
    intro c2 js2 hle2
    cbv
    rw [hp2, ha1]
    refine call_con (ρ := [(5, .z)]) (h2 c2) ⟨by rfl, by rfl, by rfl, by cbv; exact ⟨view_refl _, trivial⟩⟩ ?_
    rintro v H R js3 ⟨rfl, c3, c0, acc, hv, ai, rfl, rfl⟩
    cbv
    rw [hself]
    cbv
    refine call_con (ρ := [(10, .z), (0, .z)]) (h3 c3 cap) ⟨by rfl, by rfl, by rfl, by cbv; exact ⟨view_refl _, view_refl _, trivial⟩⟩ ?_
    rintro v H R js4 ⟨rfl, rfl, rfl⟩
    cbv
    rw [hself]
    cbv
    rw [hofp, hself]
    cbv
    refine call_con (ρ := []) hwakes ⟨by rfl, by rfl, by rfl, by cbv⟩ ?_
    rintro v H R js5 ⟨rfl, rfl, rfl⟩
    cbv
  · have h1 := write_bad l log cap hl hlog hR
    refine con_gen (con_cut 2 (by simp) (con_drop (con_walk hmix fn5 ?_)))
    intro vb vc vw vtoN vofN vaddN vsubN vmaxI vminI vcutN vgd vst vln vrep vsub vonto vsplice vstrEq vbyteV vnotB veqB hw qb qc qw qtoN qofN qaddN qsubN qmaxI qminI qcutN qgd qst qln qrep qsub qonto qsplice qstrEq qbyteV qnotB qeqB
    have hm := hmix; generalize Try.prog = P at *
    generalize l.length = n at *
    generalize be.length = m at *
    have h70 : vc .neq 70 0 = true := by rw [qc]; rfl
    cbv
    refine call_con (ρ := [(0, .z)]) h1 ⟨by rfl, by rfl, by rfl, by cbv; exact ⟨view_refl _, trivial⟩⟩ ?_
    rintro v H R js ⟨rfl, rfl, rfl⟩
    cbv
    rw [h70]
    cbv
    refine call_con (ρ := []) hwakes ⟨by rfl, by rfl, by rfl, by cbv⟩ ?_
    rintro v H R js4 ⟨rfl, rfl, rfl⟩
    cbv
theorem own : ownKnob Try.prog.godebug = none := by kernel_rfl
set_option maxRecDepth 100000 in
theorem lifted (os : Os) (started : os.Started) (H : Type) (enc : TypeId × Value → H) :
    ReturnsInHanded {} Try.checked os 5 .any (Rows.statesBackSpec.pre6 enc Try.prog Try.f5 Rows.statesBackRow.domain false) (Rows.statesBackSpec.post enc Try.prog Try.f5 false true false false) := by
  refine returnsInHanded_of_change_sized (C := Try.checked) own started (by kernel_rfl) Try.func5
    (ChangeSpec.witness6 (enc := enc) (C := Try.checked) false ⟨#[], #[.slice none 0 0, .int .i64 0, .slice none 0 0], []⟩ 8 (by kernel_rfl) (by kernel_rfl) (by kernel_rfl) (by kernel_rfl)) ?_
  intro W base args ds gs before hval0 hW hcnd hz _
  have hval : ∀ (j : Nat) t v, Try.f5.params[j]? = some t → args[j]? = some v → Value.okWide Try.prog W .any base t v := hval0
  have hW' := hW
  obtain ⟨p, q, hA0, hV, rfl, hfz, hnd⟩ := hW
  have hA : DataW.TrodAll enc Try.prog W 0 (fun _ => true) true Try.f5.params.toList args.toList ds p := hA0
  rw [Try.params5] at hA hval
  obtain ⟨v0, vs0, d0, ds0, p0, q0, hargs0, rfl, rfl, h0, r0⟩ := trodAll_cons hA
  obtain ⟨v1, vs1, d1, ds1, p1, q1, hargs1, rfl, rfl, h1, r1⟩ := trodAll_cons r0
  obtain ⟨v2, vs2, d2, ds2, p2, q2, hargs2, rfl, rfl, h2, r2⟩ := trodAll_cons r1
  obtain ⟨rfl, rfl, rfl⟩ := trodAll_nil r2
  obtain rfl : args = #[v0, v1, v2] := by cases args; simp_all
  obtain ⟨rfl, rfl⟩ := trodVars_none hV
  obtain ⟨s0, l0, cap0, rfl, lt0, ho0, hw0, hc0, hd0⟩ := arg_intsD (P := Try.prog) Try.underlying34 Try.underlying47 (by kernel_rfl) (hval 0 34 v0 rfl rfl) h0
  obtain ⟨a1, rfl, rfl, rfl, w1⟩ := open_int Try.underlying3 (hval 1 3 v1 rfl rfl) h1
  obtain ⟨s2, l2, cap2, rfl, lt2, ho2, hw2, hc2, hd2⟩ := arg_intsD (P := Try.prog) Try.underlying23 Try.underlying5 (by kernel_rfl) (hval 2 23 v2 rfl rfl) h2
  have hb2 : l2.length * 1 ≤ 140737488351232 := by
    rcases hd2 with ⟨_, rfl⟩ | ⟨rest, rfl⟩
    · simp
    · have h := sized_slice hz (j := 2) (t := 23) (e := 5) rfl rfl Try.underlying23
      rw [show Try.checked.prog.bytesOf 5 = 1 by kernel_rfl, show reachBytes = 140737488351232 by rfl] at h
      simp only [lits, List.length_map] at h
      omega
  refine (con_below (law_con l0 a1 l2 cap0 cap2 (fun x hx => wf_i16 (hw0 x hx)) (wf_i64 w1) (fun x hx => wf_u8 (hw2 x hx)) (by omega)) (by intro B hB; simp at hB; rcases hB with rfl | rfl <;> rfl) (ok_args [(s0, .ro .i16 l0), (s2, .ro .u8 l2)] (by intro e he; simp at he; rcases he with rfl | rfl; exact ⟨lt0, rfl, ho0⟩; exact ⟨lt2, rfl, ho2⟩))).mono fun e W' ⟨he, hb⟩ => ⟨_, he, ?_⟩
  exact law_post hW' rfl (by kernel_rfl) Try.underlying4 (by kernel_rfl) (by kernel_rfl) rfl rfl rfl hb

theorem over : Rows.statesBackRow.holds Try.pinned (OpenSpec.ofChange Rows.statesBackSpec) :=
  OpenClaim.holds_of_wide 5 Try.f5 rfl rfl rfl rfl rfl rfl rfl ⟨rfl, rfl, rfl, rfl, rfl⟩ rfl rfl rfl rfl rfl (by kernel_rfl) Try.func5 (by kernel_rfl)
    (of_decide_eq_true (by kernel_rfl)) (by unfold Func.isWrapper; first | (rw [if_pos (by decide +kernel)]; kernel_rfl) | (rw [if_neg (by decide +kernel)]; exact ⟨rfl, rfl⟩))
    (fun os started H enc _ => lifted os started H enc)

theorem proved : Rows.StatesBackSaid :=
  over
#print axioms proved
end Go.Proofs.Ytodobmkflimfkaa.statesBack
